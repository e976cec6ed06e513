/- Texts that the last one goes by: Ev3, Ev4, Ev4b, Ev4c, Ev5, Ev6a. -/
import Derived.Test.YtnbdlncbfjkpcaaGreatAvA2
set_option linter.all false
set_option linter.unusedVariables false
set_option linter.unusedSimpArgs false
section
set_option linter.unusedVariables false
set_option linter.unusedSimpArgs false
set_option linter.unusedSectionVars false
namespace Go.Av
section
variable [Known] {P : Program} {X : Nat → Prop} {β0 : Places} {w0 w w' : World} {S0 S S' : Stable} {st st' : St} {a : Act} {β β' : Places}
theorem SLe.objs {s1 s : St} (ht : s1.t = s.t) (hk : s1.ks = s.ks) (ho : ∀ k ob, lk k s1.o = some ob → ∃ x, lk k s.o = some x ∧ OLe x ob ∧ ∀ p, x.okO p → ob.okO p)
    (hn : s1.n ≤ s.n) (hz : s1.sz = s.sz) (hu : s1.u = s.u) (hg : s1.g = s.g := by rfl) : SLe P s1 s := by
  rintro X β0 w0 S0 a w ⟨S, β, h⟩
  refine SLe.of (fun i tv hl => ?_) (fun k ob hl => ?_) hn hz hu hg X β0 w0 S0 a w ⟨S, β, h⟩
  · rw [ht] at hl
    obtain ⟨v, _, _, h3⟩ := h.tmps i tv hl
    rw [hk]
    exact ⟨h3, tv, hl, .refl _⟩
  · obtain ⟨x, h1, h2, h3⟩ := ho k ob hl
    obtain ⟨_, g2, g3⟩ := h.objs k x h1
    rw [hk]
    exact ⟨h3 _ g2, g3, x, h1, h2⟩
theorem SLe.trans {s1 s2 s3 : St} (h : SLe P s1 s2) (k : SLe P s2 s3) : SLe P s1 s3 := fun X β0 w0 S0 a w hs => h X β0 w0 S0 a w (k X β0 w0 S0 a w hs)
theorem SLe.setN {s : St} {n m : Nat} (h : n ≤ m) : SLe P (setN s n) (setN s m) :=
  .objs rfl rfl (fun k ob hl => ⟨ob, hl, .refl _, fun _ h => h⟩) h rfl rfl
theorem OLe.any {A : Ann} {m : Nat} {es : List (List T)} : OLe (.arr A m es) (.arr .any m es) :=
  .arr (fun _ _ => trivial) (fun q h => by cases h) rfl (fun _ _ _ => rfl) (fun _ _ _ _ _ _ => .refl _) (fun t h => by cases h)
theorem OLe.ann {A A' : Ann} {m : Nat} {es : List (List T)} (h1 : ∀ x, A'.has x) (h0 : ∀ q, A' ≠ .tok q) (h2 : ∀ t, A'.tag = some t → A.tag = some t) : OLe (.arr A m es) (.arr A' m es) :=
  .arr (fun x _ => h1 x) (fun q h => absurd h (h0 q)) rfl (fun _ _ _ => rfl) (fun _ _ _ _ _ _ => .refl _) h2
theorem elAnn_has {el : TypeId} (x : Nat) : (elAnn P el).has x := by unfold elAnn; split <;> trivial
theorem elAnn_tok {el : TypeId} (q : Tok) : elAnn P el ≠ .tok q := by unfold elAnn; split <;> simp
theorem elAnn_tag {el t : TypeId} (h : (elAnn P el).tag = some t) : el = t := by
  unfold elAnn at h
  split at h
  · exact Option.some.inj h
  · cases h
theorem apAnn_has {el : TypeId} {A : Ann} (x : Nat) : (apAnn (elAnn P el) A).has x := by
  cases A with
  | nilA => exact elAnn_has x
  | u8 e =>
    unfold elAnn
    split
    · show Ann.has (if e = el then .u8 el else .any) x
      split <;> trivial
    · trivial
  | _ => trivial
theorem apAnn_tok {el : TypeId} {A : Ann} (q : Tok) : apAnn (elAnn P el) A ≠ .tok q := by
  cases A with
  | nilA => exact elAnn_tok q
  | u8 e =>
    unfold elAnn
    split
    · show (if e = el then Ann.u8 el else .any) ≠ _
      split <;> simp
    · simp [apAnn]
  | _ => simp [apAnn]
theorem apAnn_tag {el t : TypeId} {A : Ann} (h : (apAnn (elAnn P el) A).tag = some t) : apTag el A = some t := by
  cases A with
  | nilA => rw [elAnn_tag (P := P) h]; rfl
  | u8 e =>
    unfold elAnn at h
    split at h
    · have h : Ann.tag (if e = el then .u8 el else .any) = some t := h
      split at h
      · rename_i he
        subst he
        show (if some e = some e then some e else none) = some t
        rw [if_pos rfl]
        exact h
      · cases h
    · cases h
  | _ => cases h
theorem onSt_same {s : St} {x : Option St} (h : x = some s) : onSt (SLe P s) x := by rw [h]; exact SLe.refl s
theorem chk_and {c d : Bool} {u : Unit} (h : chk (c && d) = some u) : c = true ∧ d = true := chk2 h
theorem mkArr_le {d m blk : Nat} {es : List (List T)} {s : St} {el : TypeId} (h : mkArr st d m es (elAnn P el) = some s) (hb : st.n ≤ blk) : onSt (SLe P s) (newArr st d blk m es (blk + 1) el) := by
  unfold mkArr at h
  obtain ⟨_, h1, h⟩ := ob_eq_some h
  cases h
  unfold newArr
  rw [h1]
  refine SLe.objs rfl rfl (fun k ob hl => ?_) (by show st.n ≤ blk + 1; omega) rfl rfl
  by_cases hk : k = kOf d
  · subst hk; rw [lk_cons_eq] at hl; cases hl; exact ⟨_, lk_cons_eq _ _ _, .ann elAnn_has elAnn_tok (fun t h => by rw [← elAnn_tag (P := P) h]; rfl), fun _ h => h⟩
  · rw [lk_cons_ne _ _ hk] at hl; exact ⟨ob, by rw [lk_cons_ne _ _ hk]; exact hl, .refl _, fun _ h => h⟩
theorem apSt_le {d k m blk n : Nat} {es : List (List T)} {s : St} {el : TypeId} {A : Ann} (h : apSt st d k m es (apAnn (elAnn P el) A) = some s) (hb : st.n ≤ n) : onSt (SLe P s) (apState st d k blk m es n (apTag el A)) := by
  unfold apSt at h
  obtain ⟨_, h1, h⟩ := ob_eq_some h
  cases h
  unfold apState
  rw [h1]
  refine SLe.objs rfl rfl (fun j ob hl => ?_) hb rfl rfl
  by_cases hk : j = k
  · subst hk; rw [lk_cons_eq] at hl; cases hl; exact ⟨_, lk_cons_eq _ _ _, .ann apAnn_has apAnn_tok (fun t h => apAnn_tag h), fun _ h => h⟩
  · rw [lk_cons_ne _ _ hk] at hl; exact ⟨ob, by rw [lk_cons_ne _ _ hk]; exact hl, .refl _, fun _ h => h⟩
theorem eop_aop {o : Oper} {op : Op} {s : St} (e : eop P st o op = some s) : aop P (SLe P s) st o op := by
  have ll : lop P st o = some s → onSt (SLe P s) (lop P st o) := fun h => onSt_same h
  cases op with
  | store t x v => exact onSt_same e
  | call c =>
    simp only [eop] at e
    simp only [aop]
    cases hc : c.callee with
    | value f => rw [hc] at e; cases e
    | invoke r m => rw [hc] at e; exact ll e
    | builtin b =>
      rw [hc] at e
      by_cases hb : b = .append
      · subst hb
        simp only at e ⊢
        cases hty : c.argTypes.toList with
        | nil => rw [hty] at e; cases e
        | cons t l =>
          cases l with
          | nil => rw [hty] at e; cases e
          | cons u l =>
            cases l with
            | cons _ _ => rw [hty] at e; cases e
            | nil =>
              cases hax : c.args.toList with
              | nil => rw [hty, hax] at e; cases e
              | cons sx l =>
                cases l with
                | nil => rw [hty, hax] at e; cases e
                | cons x l =>
                  cases l with
                  | cons _ _ => rw [hty, hax] at e; cases e
                  | nil =>
                    rw [hty, hax] at e
                    simp only at e ⊢
                    unfold eappend at e
                    obtain ⟨d, h1, e⟩ := ob_eq_some e
                    obtain ⟨el, h2, e⟩ := ob_eq_some e
                    obtain ⟨z, h3, e⟩ := ob_eq_some e
                    obtain ⟨⟨k, A, es⟩, h4, e⟩ := ob_eq_some e
                    obtain ⟨new, h5, e⟩ := ob_eq_some e
                    obtain ⟨_, h6, e⟩ := ob_eq_some e
                    obtain ⟨_, h7, e⟩ := ob_eq_some e
                    obtain ⟨c1, c2⟩ := chk_and h6
                    simp only [Bool.and_eq_true, beq_iff_eq, decide_eq_true_eq, Bool.or_eq_true, List.all_eq_true] at c1 c2
                    obtain ⟨c5, c6⟩ := of_decide_eq_true (chk_eq_some h7)
                    exact ⟨d, el, k, A, es, new, h1, h2, c2.1, c1.2, by rw [h3]; simp [c1.1], h4, h5, c2.2, c5, c6, fun blk n _ _ hn => apSt_le e hn⟩
      · by_cases hb2 : b = .unsafeString
        · subst hb2
          simp only at e ⊢
          cases hty : c.argTypes.toList with
          | nil => rw [hty] at e; cases e
          | cons t l =>
            cases l with
            | nil => rw [hty] at e; cases e
            | cons u l =>
              cases l with
              | cons _ _ => rw [hty] at e; cases e
              | nil =>
                cases hax : c.args.toList with
                | nil => rw [hty, hax] at e; cases e
                | cons sx l =>
                  cases l with
                  | nil => rw [hty, hax] at e; cases e
                  | cons x l =>
                    cases l with
                    | cons _ _ => rw [hty, hax] at e; cases e
                    | nil =>
                      rw [hty, hax] at e
                      obtain ⟨_, h0, e⟩ := ob_eq_some e
                      obtain ⟨⟨k, es⟩, h1, e⟩ := ob_eq_some e
                      obtain ⟨y, h2, e⟩ := ob_eq_some e
                      have := strOf_some h2
                      exact ⟨chk_eq_some h0, k, y, by rw [h1, show es = bytesT y from this], onSt_same e⟩
        · cases b <;> first | exact absurd rfl hb | exact absurd rfl hb2 | exact ll e
  | convert src d x =>
    simp only [eop] at e
    simp only [aop]
    cases hti : tyInt P d with
    | some k => rw [hti] at e; exact ll e
    | none =>
      rw [hti] at e
      simp only at e ⊢
      cases hst : tyStr P d with
      | true =>
        rw [hst] at e
        simp only at e ⊢
        unfold estr at e
        obtain ⟨_, h1, e⟩ := ob_eq_some e
        obtain ⟨c1, c2⟩ := chk_and h1
        have c2 := of_decide_eq_true c2
        obtain ⟨es, h2, e2⟩ := ob_eq_some e
        obtain ⟨x', h3, e3⟩ := ob_eq_some e2
        clear e e2
        have h3' := strOf_some h3
        subst h3'
        generalize evc st x = tv at h2
        cases tv with
        | d t =>
          cases t with
          | sl A es => cases h2; exact ⟨c1, c2, x', rfl, onSt_same e3⟩
          | _ => cases h2
        | nl =>
          have hx : x' = ByteArray.empty := by
            simp only [strEs, Option.some.injEq] at h2
            exact bytesT_inj (h2.symm.trans rfl)
          subst hx
          exact ⟨c1, c2, onSt_same e3⟩
        | own k =>
          obtain ⟨oo, h4, h5⟩ := ob_eq_some h2
          obtain ⟨⟨m, es⟩, h6, h7⟩ := ob_eq_some h5
          cases h7
          exact ⟨c1, c2, oo, m, x', h4, h6, onSt_same e3⟩
        | _ => cases h2
      | false =>
        rw [hst] at e
        simp only at e ⊢
        cases hip : isPtr (evc st x) with
        | true => rw [hip] at e; exact ll e
        | false =>
        rw [hip] at e
        simp only at e ⊢
        clear hip
        generalize evc st x = tv at e
        cases tv with
        | d t =>
          cases t with
          | s x =>
            obtain ⟨_, h1, e⟩ := ob_eq_some e
            obtain ⟨c1, c2⟩ := chk_and h1
            refine ⟨c1, of_decide_eq_true c2, fun blk hb => ?_⟩
            cases hd : o.dst with
            | none =>
              rw [hd] at e
              cases e
              exact SLe.objs rfl rfl (fun k ob hl => ⟨ob, hl, .refl _, fun _ h => h⟩) (by show st.n ≤ blk + 1; omega) rfl rfl
            | some d =>
              rw [hd] at e
              obtain ⟨_, h2, e⟩ := ob_eq_some e
              cases e
              show onSt _ (ob (chk (decide (d < st.sz))) fun _ => some _)
              rw [h2]
              show SLe P _ _
              rintro X β0 w0 S0 a w ⟨S, β, h⟩
              refine ⟨S, β, h.kn, h.dfr, h.size, ?_, h.objs, h.own, h.inj, h.sep, h.bnd, h.sub, h.new, h.below, Nat.le_trans (by show st.n ≤ blk + 1; omega) h.n, h.fix, h.gh, h.tk⟩
              intro i tv hl
              by_cases hi : i = d
              · subst hi
                rw [lk_cons_eq] at hl; cases hl
                obtain ⟨v, g1, g2, g3⟩ := h.tmps i _ (lk_cons_eq _ _ _)
                exact ⟨v, g1, .d ((rv_d g2).weaken (TLe.sl (A' := .any) (fun _ _ => trivial) (fun q h => by cases h) rfl (fun _ _ _ => rfl) (fun _ _ _ _ _ _ => .refl _))), trivial⟩
              · rw [lk_cons_ne _ _ hi] at hl
                exact h.tmps i tv (by rw [lk_cons_ne _ _ hi]; exact hl)
          | _ => cases e
        | _ => cases e
  | makeSlice t l c =>
    simp only [eop] at e
    unfold emake at e
    obtain ⟨d, h1, e⟩ := ob_eq_some e
    obtain ⟨el, h2, e⟩ := ob_eq_some e
    obtain ⟨z, h3, e⟩ := ob_eq_some e
    obtain ⟨n, h4, e⟩ := ob_eq_some e
    obtain ⟨n', h5, e⟩ := ob_eq_some e
    obtain ⟨_, h6, e⟩ := ob_eq_some e
    obtain ⟨_, h7, e7⟩ := ob_eq_some e
    obtain ⟨c1, c2⟩ := chk_and h6
    obtain ⟨⟨c0, c3⟩, c4, c5⟩ := of_decide_eq_true (chk_eq_some h7)
    simp only [beq_iff_eq, decide_eq_true_eq] at c1 c2
    have en : ((n.toNat : Nat) : Int) = n := Int.toNat_of_nonneg c3
    exact ⟨d, el, z, n.toNat, h1, h2, h3, c1, c2, by rw [en]; exact h4, by rw [en, c0]; exact h5, c4, c5, fun blk hb => mkArr_le e7 hb⟩
  | buildSlice t len parts =>
    simp only [eop] at e
    unfold ebuild at e
    obtain ⟨d, h1, e⟩ := ob_eq_some e
    obtain ⟨el, h2, e⟩ := ob_eq_some e
    obtain ⟨z, h3, e⟩ := ob_eq_some e
    obtain ⟨es, h4, e⟩ := ob_eq_some e
    obtain ⟨_, h6, e⟩ := ob_eq_some e
    obtain ⟨c1, c2⟩ := chk_and h6
    simp only [beq_iff_eq, decide_eq_true_eq, Bool.and_eq_true] at c1 c2
    exact ⟨d, el, z, es, h1, h2, h3, c1, c2.1, c2.2, h4, fun blk hb => mkArr_le e (by rw [(frz_n _ _).1]; exact hb)⟩
  | slice t x lo hi mx =>
    cases mx with
    | none =>
      simp only [eop] at e
      simp only [aop]
      generalize hx : evc st x = tv at e
      cases tv with
      | own k =>
        simp only [eslice] at e
        have old : ∀ lo hi, eslice2 P st o t lo hi k = some s → asliceOwn P (SLe P s) st o.dst t lo hi k := by
          intro lo hi e
          unfold eslice2 at e
          obtain ⟨ob', h1, e⟩ := ob_eq_some e
          cases ob' with
          | fz A m es => exact ⟨A, m, es, h1, onSt_same e⟩
          | _ => cases e
        split at e
        · rename_i y
          obtain ⟨ob', h1, e⟩ := ob_eq_some e
          cases ob' with
          | arr A m es =>
            simp only [eslice1] at e
            by_cases h40 : 40 ≤ k
            case neg => rw [decide_eq_false h40, cond_false] at e; exact .inl (old _ _ e)
            rw [decide_eq_true h40, cond_true] at e
            obtain ⟨d, hd, e⟩ := ob_eq_some e
            obtain ⟨h, hh, e⟩ := ob_eq_some e
            exact .inr ⟨y, rfl, rfl, A, m, es, d, h, hd, h1, hh, onSt_same e⟩
          | fz A m es => exact .inl (old _ _ e)
          | box cs ty => cases e
        · exact .inl (old _ _ e)
      | d tt => exact ll e
      | _ => cases e
    | some m =>
      simp only [eop] at e
      simp only [aop]
      unfold ezero at e
      obtain ⟨el, h1, e⟩ := ob_eq_some e
      obtain ⟨h, h2, e⟩ := ob_eq_some e
      obtain ⟨m', h3, e⟩ := ob_eq_some e
      obtain ⟨_, h4, e4⟩ := ob_eq_some e
      obtain ⟨c1, c2⟩ := chk_and h4
      simp only [Bool.and_eq_true, decide_eq_true_eq] at c1 c2
      obtain ⟨c3, c4, c5, c6⟩ := c2
      refine ⟨by rw [h1]; simp [c1], by simpa using c3, by rw [h2, c5], by rw [h3, c6], ?_, onSt_same e4⟩
      revert c4
      generalize evc st x = tv
      intro c4
      cases tv with
      | d t => cases t <;> first | trivial | cases c4
      | nl => trivial
      | own k => trivial
      | _ => cases c4
  | _ => exact ll e
theorem SimE.le {s1 s : St} (hl : SLe P s1 s) (h : SimE P X β0 w0 S0 s a w) : SimE P X β0 w0 S0 s1 a w := hl X β0 w0 S0 a w h
theorem mapT_no {g : Option (Nat × Bool)} : ∀ (r : TV), r.mapT (tkF false g) = r := by
  have key : ∀ n : Nat, ∀ r : TV, SizeOf.sizeOf r < n → r.mapT (tkF false g) = r := by
    intro n
    induction n with
    | zero => exact fun t h => absurd h (Nat.not_lt_zero _)
    | succ n ih =>
      intro r h
      have many : ∀ cs : List TV, (∀ y ∈ cs, SizeOf.sizeOf y < n) → cs.map (TV.mapT (tkF false g)) = cs := fun cs h => by
        conv => rhs; rw [← List.map_id cs]
        exact List.map_congr_left fun y hy => ih y (h y hy)
      cases r with
      | agg cs => rw [TV.mapT, mapTL_eq, many cs (fun y hy => by have := List.sizeOf_lt_of_mem hy; simp at h; omega)]
      | tup cs => rw [TV.mapT, mapTL_eq, many cs (fun y hy => by have := List.sizeOf_lt_of_mem hy; simp at h; omega)]
      | _ => rfl
  exact fun r => key _ r (Nat.lt_succ_self _)
theorem mapO_no {g : Option (Nat × Bool)} : ∀ (o : Objs), mapO (tkF false g) o = o
  | [] => rfl
  | (k, x) :: o => by
    have hid : ∀ l : List (List T), l.map (·.map (tkF false g)) = l := fun l => by
      have : tkF false g = id := funext fun _ => rfl
      rw [this]; simp
    simp only [mapO, mapO_no o]
    cases x <;> simp only [Obj.mapT, hid]
theorem plain_bare {f : Nat → Nat} : ∀ (x : TV), plainTV (eraseTV x) = true → bareTV ((eraseTV x).ren f) := by
  have key : ∀ n : Nat, ∀ r : TV, SizeOf.sizeOf r < n → plainTV (eraseTV r) = true → bareTV ((eraseTV r).ren f) := by
    intro n
    induction n with
    | zero => exact fun t h => absurd h (Nat.not_lt_zero _)
    | succ n ih =>
      intro r h hp
      cases r with
      | d t => exact bareT_erase t
      | agg cs =>
        have many : ∀ cs : List TV, (∀ y ∈ cs, SizeOf.sizeOf y < n) → plainL (eraseL cs) = true → bareL (renL f (eraseL cs)) := by
          intro cs
          induction cs with
          | nil => exact fun _ _ => trivial
          | cons y ys ihy =>
            intro h1 h2
            simp only [eraseL, plainL, Bool.and_eq_true] at h2
            exact ⟨ih y (h1 y (by simp)) h2.1, ihy (fun z hz => h1 z (List.mem_cons_of_mem _ hz)) h2.2⟩
        exact many cs (fun y hy => by have := List.sizeOf_lt_of_mem hy; simp at h; omega) hp
      | unk => trivial
      | nl => trivial
      | _ => cases hp
  exact fun x => key _ x (Nat.lt_succ_self _)
theorem plainL_bare {f : Nat → Nat} : ∀ {l : List TV}, plainL (eraseL l) = true → bareL (renL f (eraseL l))
  | [], _ => trivial
  | x :: l, h => by
    simp only [eraseL, plainL, Bool.and_eq_true] at h
    exact ⟨plain_bare x h.1, plainL_bare h.2⟩
theorem prep1_call {g : FuncId} {z : Bool} {fk : List Nat} {args0 args cap low : List TV} {p : Prep} {s : St} {dst : Option Nat} {r : TV × Objs}
    (e : prep1 (Av.frz st fk) g z fk low = some p) (hbare : z = true → ∃ l, low = eraseL l) (hargs : args0 = args ++ cap) (hlen : low.length = args0.length)
    (hle : ∀ i (hi : i < args0.length) (hj : i < low.length), Le P (Av.frz st fk) args0[i] low[i])
    (hp : Plainly P g) (hac : ACz p.z P p.g p.ins p.args fun _ _ r' o' => r' = r.1 ∧ o' = r.2) (hpost : post st dst p r = some s) :
    p.g = g ∧ acall P (SLe P s) st dst (.clo g cap) args := by
  have hzz : p.z = z := by
    unfold prep1 at e
    obtain ⟨_, _, e⟩ := ob_eq_some e
    obtain ⟨_, _, e⟩ := ob_eq_some e
    obtain ⟨_, _, e⟩ := ob_eq_some e
    obtain ⟨_, _, e⟩ := ob_eq_some e
    cases e; rfl
  unfold prep1 at e
  obtain ⟨κ, hκ, e⟩ := ob_eq_some e
  clear hκ
  obtain ⟨ins, h1, e⟩ := ob_eq_some e
  obtain ⟨ins0, h2, e⟩ := ob_eq_some e
  obtain ⟨_, h3, e⟩ := ob_eq_some e
  cases e
  obtain ⟨c1, c2⟩ := chk_and h3
  simp only [Bool.and_eq_true, decide_eq_true_eq] at c2
  obtain ⟨c2, c3, c4, cz⟩ := c2
  obtain ⟨g1, g2, g3, g4⟩ := pick_eq h1 h2
  refine ⟨rfl, hp, z, fk, ins, nth κ, renL (fun k => idx k 0 κ) low, _, hac, ?_, ?_, ?_, ?_, ?_, ?_, ?_, ?_⟩
  · rintro rfl
    obtain ⟨l', rfl⟩ := hbare rfl
    simp only [zOk, Bool.and_eq_true] at cz
    refine ⟨?_, plainL_bare cz.2⟩
    have hκ : κ = [] := by have := cz.1; cases κ with | nil => rfl | cons _ _ => cases this
    have : keysOf ins = [] := by rw [g4, hκ]; rfl
    cases ins with
    | nil => rfl
    | cons _ _ => cases this
  · rw [renL_len, ← hargs, hlen]
  · subst hargs
    intro i hi hj
    rw [renL_get]
    have hok : (low[i]'(by rw [renL_len] at hj; exact hj)).ok (fun k => nth κ (idx k 0 κ) = k) :=
      TV.ok_mono (fun k hk => (idx_nth hk).2) (okL_get (okBL_iff.1 c1) i _)
    rw [ren_back hok]
    exact hle i hi _
  · rw [okL_iff]
    intro x hx
    rw [renL_eq] at hx
    obtain ⟨y, hy, rfl⟩ := List.mem_map.1 hx
    exact ren_ok (p := (· ∈ κ)) (fun k hk => by rw [g4]; exact List.mem_map_of_mem hk) (okL_iff.1 (okBL_iff.1 c1) y hy)
  · intro k hk
    rw [g4] at hk
    obtain ⟨j, hj, rfl⟩ := List.mem_map.1 hk
    have := (idx_nth hj).1
    omega
  · intro k ob hk
    rw [g2] at hk
    obtain ⟨j, y, rfl, h5, rfl⟩ := renO_lk (fun k k' hk hk' e => by rw [g1] at hk hk'; exact idx_inj hk hk' e) hk
    have hj : j ∈ κ := by rw [← g1]; exact lk_keys h5
    refine ⟨?_, ?_⟩
    · rw [(idx_nth hj).2]
      have hok : y.okO (fun k => nth κ (idx k 0 κ) = k) := okO_mono (fun k hk => (idx_nth hk).2) (allOk_lk c2 h5)
      rw [oren_back hok]
      exact g3 j y h5
    · exact okO_ren (p := (· ∈ κ)) (fun k hk => by rw [g4]; exact List.mem_map_of_mem hk) (allOk_lk c2 h5)
  · intro k k' hk hk' e
    rw [g4] at hk hk'
    obtain ⟨j, hj, rfl⟩ := List.mem_map.1 hk
    obtain ⟨j', hj', rfl⟩ := List.mem_map.1 hk'
    rw [(idx_nth hj).2, (idx_nth hj').2] at e
    rw [e]
  · rintro n1 n2 r' outs hn1 hn2 ⟨rfl, rfl⟩ hro
    unfold post at hpost
    obtain ⟨_, h6, hpost⟩ := ob_eq_some hpost
    obtain ⟨c5, c6⟩ := chk_and h6
    have fin : ∀ (s' : St) (x : TV), s'.n = 0 → put s' x dst = some s → onSt (SLe P s) (put { s' with n := n2 } x dst) := by
      intro s' x hn hput
      cases dst with
      | none =>
        cases hput
        exact SLe.objs rfl rfl (fun k ob hl => ⟨ob, hl, .refl _, fun _ h => h⟩) (by rw [hn]; exact Nat.zero_le _) rfl rfl
      | some d =>
        obtain ⟨_, h7, hput⟩ := ob_eq_some hput
        cases hput
        have h7 : chk (decide (d < s'.sz)) = some _ := h7
        show onSt _ (ob (chk (decide (d < s'.sz))) fun _ => some _)
        rw [h7]
        show SLe P _ _
        exact SLe.objs rfl rfl (fun k ob hl => ⟨ob, hl, .refl _, fun _ h => h⟩) (by show s'.n ≤ n2; rw [hn]; exact Nat.zero_le _) rfl rfl
    clear hzz
    cases z with
    | false =>
      refine ⟨fun h => (by cases h), c5, ?_⟩
      have hpost : put (merge (Av.frz st fk) ins (nth κ) dst r.2 0) (r.1.ren (rk (nth κ) dst)) dst = some s := hpost
      rw [mapT_no, mapO_no]
      exact fin _ _ rfl hpost
    | true =>
      have hpost : (ob (chk (flatTV r.1 && arrO r.2)) fun _ =>
        put (merge (bumpZ true (Av.frz st fk)) ins (nth κ) dst (mapO (tkF true (Av.frz st fk).g) r.2) 0) ((r.1.mapT (tkF true (Av.frz st fk).g)).ren (rk (nth κ) dst)) dst) = some s := hpost
      obtain ⟨_, h7, hpost⟩ := ob_eq_some hpost
      refine ⟨fun _ => chk_and h7, c5, ?_⟩
      exact fin _ _ rfl hpost
theorem prep_call {C : Cfg} {f : TV} {args : List TV} {p : Prep} {s : St} {dst : Option Nat} {r : TV × Objs}
    (e : prep C st f args = some p) (hp : Plainly C.P p.g) (hac : ACz (C.Z p.g) C.P p.g p.ins p.args fun _ _ r' o' => r' = r.1 ∧ o' = r.2) (hpost : post st dst p r = some s) :
    acall C.P (SLe C.P s) st dst f args := by
  cases f with
  | clo g cap =>
    simp only [prep] at e
    have hgz : ∀ {st' : St} {fk : List Nat} {l : List TV}, prep1 st' g (C.Z g) fk l = some p → p.g = g ∧ p.z = C.Z g := by
      intro st' fk l e'
      unfold prep1 at e'
      obtain ⟨_, _, e'⟩ := ob_eq_some e'
      obtain ⟨_, _, e'⟩ := ob_eq_some e'
      obtain ⟨_, _, e'⟩ := ob_eq_some e'
      obtain ⟨_, _, e'⟩ := ob_eq_some e'
      cases e'; exact ⟨rfl, rfl⟩
    have hbare : ∀ l : List TV, C.Z g = true → ∃ l', erz st.g (C.Z g) l = eraseL l' := by
      intro l h
      rw [h]
      cases st.g <;> exact ⟨_, rfl⟩
    cases hx : C.Y g with
    | true =>
      rw [hx] at e
      have e' : prep1 (Av.frz st []) g (C.Z g) [] (erz st.g (C.Z g) (args ++ cap)) = some p := e
      obtain ⟨hg, hz⟩ := hgz e'
      obtain ⟨l1, l2⟩ := erz_le (P := C.P) (st := Av.frz st []) (g := st.g) (z := C.Z g) (xs := args ++ cap) (ys := args ++ cap) rfl (fun i hi hj => .same _)
      exact (prep1_call e' (hbare _) rfl l1 l2 (hg ▸ hp) (by rw [hz, ← hg]; exact hac) hpost).2
    | false =>
      rw [hx] at e
      have e' : prep1 (Av.frz st (ownKeysL (args ++ cap))) g (C.Z g) (ownKeysL (args ++ cap)) (erz st.g (C.Z g) (lowL st.o (args ++ cap))) = some p := e
      obtain ⟨hg, hz⟩ := hgz e'
      obtain ⟨l1, l2⟩ := lowL_le (P := C.P) (st := st) (fk := ownKeysL (args ++ cap)) (cs := args ++ cap) (fun k hk => hk)
      obtain ⟨l3, l4⟩ := erz_le (P := C.P) (g := st.g) (z := C.Z g) l1 l2
      exact (prep1_call e' (hbare _) rfl l3 l4 (hg ▸ hp) (by rw [hz, ← hg]; exact hac) hpost).2
  | _ => cases e
end
end Go.Av
end
section
set_option linter.unusedVariables false
set_option linter.unusedSimpArgs false
set_option linter.unusedSectionVars false
namespace Go.Av
section
variable [Known] {P : Program} {X : Nat → Prop} {β0 : Places} {w0 w w' : World} {S0 S S' : Stable} {st st' : St} {a : Act} {β β' : Places}
theorem Sim.addN (h : Sim P X β0 w0 S0 st a w S β) {k m : Nat} (hk : k ∉ st.ks) (h40 : 40 ≤ k) (hm : 0 < m) :
    ∃ β', Sim P X β0 w0 S0 { t := st.t, o := (k, .arr .any m []) :: st.o, ks := k :: st.ks, n := st.n, sz := st.sz, u := st.u, g := st.g } a w S β' ∧ (∀ a0, RV P w S β' (.own k) (.slice a0 0 0)) := by
  let pl : Pl := { live := false, blk := 0, len := 0, cap := 0, m := m }
  have ne : ∀ j, j ∈ st.ks → j ≠ k := fun j hj e => hk (e ▸ hj)
  have keep : ∀ tv v, RV P w S β tv v → tv.ok (· ∈ st.ks) → RV P w S (updP β k pl) tv v := fun tv v hr ho =>
    hr.keeps (.refl w S) (TV.ok_mono (fun j hj => updP_ne β pl (ne j hj)) ho)
  have old : ∀ j ob, lk j ((k, Obj.arr .any m []) :: st.o) = some ob → (j = k ∧ ob = .arr .any m []) ∨ (j ≠ k ∧ lk j st.o = some ob) := by
    intro j ob hl
    by_cases hj : j = k
    · subst hj; rw [lk_cons_eq] at hl; cases hl; exact .inl ⟨rfl, rfl⟩
    · rw [lk_cons_ne _ _ hj] at hl; exact .inr ⟨hj, hl⟩
  have nofoot : ∀ x, ¬ foot (updP β k pl k) x := by
    intro x hx; rw [updP_same] at hx; cases hx.1
  refine ⟨updP β k pl, ⟨h.kn, h.dfr, h.size, ?_, ?_, ?_, ?_, ?_, h.bnd, h.sub, h.new, h.below, h.n, ?_, ?_, h.tk⟩, ?_⟩
  · intro i tv hl
    obtain ⟨v, hv, hr, ho⟩ := h.tmps i tv hl
    exact ⟨v, hv, keep tv v hr ho, TV.ok_mono (fun j hj => List.mem_cons_of_mem _ hj) ho⟩
  · intro j ob hl
    rcases old j ob hl with ⟨rfl, rfl⟩ | ⟨hj, hl⟩
    · exact ⟨.arrN (by rw [updP_same]) (by rw [updP_same]) hm (by rw [updP_same]) (by rw [updP_same]), trivial, by simp⟩
    · obtain ⟨g1, g2, g3⟩ := h.objs j ob hl
      exact ⟨g1.keeps (.refl w S) (fun _ => rfl) (updP_ne β pl hj) (okO_mono (fun i hi => updP_ne β pl (ne i hi)) g2), okO_mono (fun i hi => List.mem_cons_of_mem _ hi) g2, List.mem_cons_of_mem _ g3⟩
  · intro j ob hl x hx
    rcases old j ob hl with ⟨rfl, rfl⟩ | ⟨hj, hl⟩
    · exact absurd hx (nofoot x)
    · rw [updP_ne β pl hj] at hx; exact h.own j ob hl x hx
  · intro j j' ob ob' hl hl' hne x hx hx'
    rcases old j ob hl with ⟨rfl, rfl⟩ | ⟨hj, hl⟩
    · exact nofoot x hx
    · rcases old j' ob' hl' with ⟨rfl, rfl⟩ | ⟨hj', hl'⟩
      · exact nofoot x hx'
      · rw [updP_ne β pl hj] at hx; rw [updP_ne β pl hj'] at hx'; exact h.inj j j' ob ob' hl hl' hne x hx hx'
  · intro j ob hl hw x hx
    rcases old j ob hl with ⟨rfl, rfl⟩ | ⟨hj, hl⟩
    · exact absurd hx (nofoot x)
    · rw [updP_ne β pl hj] at hx; exact h.sep j ob hl hw x hx
  · intro j hj; rw [updP_ne β pl (by omega)]; exact h.fix j hj
  · intro b o hb
    obtain ⟨a1, a2, a3, a4⟩ := h.gh b o hb
    refine ⟨a1, a2, fun j ob hl hx => ?_, a4⟩
    rcases old j ob hl with ⟨rfl, rfl⟩ | ⟨hj, hl⟩
    · exact nofoot b hx
    · rw [updP_ne β pl hj] at hx; exact a3 j ob hl hx
  · intro a0
    have := RV.own (P := P) (w := w) (S := S) (β := updP β k pl) k a0 (by rw [updP_same]; exact fun e => by cases e)
    rwa [updP_same] at this
theorem rv_nl {v : Value} (h : RV P w S β .nl v) : ∃ a0, v = .slice a0 0 0 := by
  cases h with | nl a0 => exact ⟨a0, rfl⟩
theorem asArr_sound {s : St} {k sl off m : Nat} (e : asArr st k sl off m = some s) (h : SimE P X β0 w0 S0 st a w) : SimE P X β0 w0 S0 s a w := by
  unfold asArr at e
  split at e
  · rename_i hl
    obtain ⟨_, h1, e⟩ := ob_eq_some e
    cases e
    obtain ⟨c1, c2⟩ := chk_and h1
    simp only [Bool.and_eq_true, decide_eq_true_eq, Bool.not_eq_true'] at c1 c2
    have hk : k ∉ st.ks := fun hh => by rw [hasKey_iff.2 hh] at c1; cases c1
    obtain ⟨S, β, h⟩ := h
    obtain ⟨β', h2, hnl⟩ := h.addN hk c2.2 c2.1
    obtain ⟨v, hv, hr, ho⟩ := h.tmps sl .nl hl
    refine ⟨S, β', h2.kn, h2.dfr, h2.size, ?_, h2.objs, h2.own, h2.inj, h2.sep, h2.bnd, h2.sub, h2.new, h2.below, h2.n, h2.fix, h2.gh, h2.tk⟩
    intro i tv hi
    by_cases his : i = sl
    · subst his
      rw [lk_cons_eq] at hi; cases hi
      exact ⟨v, hv, (by cases hr with | nl a0 => exact hnl a0), by simp [TV.ok]⟩
    · rw [lk_cons_ne _ _ his] at hi; exact h2.tmps i tv hi
  · rename_i b p hl
    split at e
    · rename_i cs ty hb
      split at e
      · rename_i hc
        obtain ⟨_, h1, e⟩ := ob_eq_some e
        cases e
        obtain ⟨c1, c2⟩ := chk_and h1
        simp only [Bool.and_eq_true, decide_eq_true_eq, Bool.not_eq_true'] at c1 c2
        have hk : k ∉ st.ks := fun hh => by rw [hasKey_iff.2 hh] at c1; cases c1
        obtain ⟨S, β, h⟩ := h
        obtain ⟨β', h2, hnl⟩ := h.addN hk c2.2 c2.1
        have hbk : b ≠ k := fun e => hk (e ▸ (h.objs b _ hb).2.2)
        have hb2 : lk b ((k, Obj.arr .any m []) :: st.o) = some (.box cs ty) := by rw [lk_cons_ne _ _ hbk]; exact hb
        obtain ⟨ov2, ok1', ok2'⟩ := h2.objs b _ hb2
        have old : ∀ j ob, lk j ((b, Obj.box (cs.set (p + off) (.own k)) ty) :: (k, Obj.arr .any m []) :: st.o) = some ob → (j = b ∧ ob = .box (cs.set (p + off) (.own k)) ty) ∨ (j ≠ b ∧ lk j ((k, Obj.arr .any m []) :: st.o) = some ob) := by
          intro j ob hl
          by_cases hj : j = b
          · subst hj; rw [lk_cons_eq] at hl; cases hl; exact .inl ⟨rfl, rfl⟩
          · rw [lk_cons_ne _ _ hj] at hl; exact .inr ⟨hj, hl⟩
        have bx : ∀ j ob, lk j ((b, Obj.box (cs.set (p + off) (.own k)) ty) :: (k, Obj.arr .any m []) :: st.o) = some ob → ∃ ob0, lk j ((k, Obj.arr .any m []) :: st.o) = some ob0 ∧ ob0.writable = ob.writable := by
          intro j ob hl
          rcases old j ob hl with ⟨rfl, rfl⟩ | ⟨hj, hl⟩
          · exact ⟨_, hb2, rfl⟩
          · exact ⟨_, hl, rfl⟩
        refine ⟨S, β', h2.kn, h2.dfr, h2.size, h2.tmps, ?_, ?_, ?_, ?_, h2.bnd, h2.sub, h2.new, h2.below, h2.n, h2.fix, ?_, h2.tk⟩
        · intro j ob hl
          rcases old j ob hl with ⟨rfl, rfl⟩ | ⟨hj, hl⟩
          · refine ⟨?_, ?_, ok2'⟩
            · cases ov2 with
              | box hv hbb hlen hr ht =>
                refine .box hv hbb (by simpa using hlen) (fun i hi hj => ?_) ht
                rw [List.getElem_set]
                split
                · rename_i hpi
                  subst hpi
                  have hi' : p + off < cs.length := by simpa using hi
                  have := hr (p + off) hi' hj
                  rw [show cs[p + off] = TV.nl from (List.getElem?_eq_some_iff.1 hc).2] at this
                  obtain ⟨a0, e0⟩ := rv_nl this
                  rw [e0]
                  exact hnl a0
                · exact hr i (by simpa using hi) hj
            · show okL _ _
              rw [okL_iff]
              intro x hx
              rcases List.mem_or_eq_of_mem_set hx with hx | hx
              · exact okL_iff.1 (show okL _ _ from ok1') x hx
              · subst hx; simp [TV.ok]
          · exact h2.objs j ob hl
        · intro j ob hl x hx
          obtain ⟨ob0, g1, g2⟩ := bx j ob hl
          rw [← g2]; exact h2.own j ob0 g1 x hx
        · intro j j' ob ob' hl hl' hne x hx
          obtain ⟨ob0, g1, g2⟩ := bx j ob hl
          obtain ⟨ob0', g1', g2'⟩ := bx j' ob' hl'
          exact h2.inj j j' ob0 ob0' g1 g1' hne x hx
        · intro j ob hl hw x hx
          obtain ⟨ob0, g1, g2⟩ := bx j ob hl
          rw [← g2] at hw; exact h2.sep j ob0 g1 hw x hx
        · intro b' o' hbo
          obtain ⟨a1, a2, a3, a4⟩ := h2.gh b' o' hbo
          refine ⟨a1, a2, fun j ob hl => ?_, a4⟩
          obtain ⟨ob0, g1, g2⟩ := bx j ob hl
          exact a3 j ob0 g1
      · cases e; exact h
    · cases e; exact h
  · cases e; exact h
theorem asArrs_sound : ∀ {l : List (Nat × Nat × Nat)} {k : Nat} {st s : St}, asArrs st k l = some s → SimE P X β0 w0 S0 st a w → SimE P X β0 w0 S0 s a w
  | [], _, _, _, e, h => by cases e; exact h
  | (x, off, m) :: l, k, st, s, e, h => by
    obtain ⟨s1, h1, e⟩ := ob_eq_some e
    exact asArrs_sound e (asArr_sound h1 h)
theorem headSt_sound {h : LHint} {s : St} (e : headSt h st = some s) (hs : SimE P X β0 w0 S0 st a w) : SimE P X β0 w0 S0 s a w := by
  obtain ⟨s1, h1, e⟩ := ob_eq_some e
  exact prune_sound e (asArrs_sound h1 hs)
theorem rename_out {z : Bool} {ins : Objs} {r : TV} {v : Value} {outs : Objs} {σ : Nat → Nat}
    (hinj : ∀ k k', k ∈ keysOf outs → k' ∈ keysOf outs → σ k = σ k' → k = k') (hlow : ∀ k, k < 40 → σ k = k) (hhigh : ∀ k, 40 ≤ k → 40 ≤ σ k)
    (hrv : RV P w' S' β' r v) (hok : r.ok (· ∈ keysOf outs)) (hth' : There P w' S' β' outs) (hfix : ∀ k, k < 40 → β' k = β k)
    (hown : ∀ k ob, lk k outs = some ob → ∀ x, foot (β' k) x → (k < 40 ∧ (ob.writable = true → InX ins β x)) ∨ InX ins β x ∨ w.heap.size ≤ x) (hins : ∀ k ob, lk k outs = some ob → k < 40 → k ∈ keysOf ins) (hext : ExtX z (InX ins β) w S w' S') :
    ∃ r' v' S'' β'' outs', Ending.returned v = .returned v' ∧ (r' = r.ren σ ∧ outs' = renO σ outs) ∧ RV P w' S'' β'' r' v' ∧ r'.ok (· ∈ keysOf outs') ∧
      There P w' S'' β'' outs' ∧ (∀ k, k < 40 → β'' k = β k) ∧ (∀ k ob, lk k outs' = some ob → ∀ x, foot (β'' k) x → (k < 40 ∧ (ob.writable = true → InX ins β x)) ∨ InX ins β x ∨ w.heap.size ≤ x) ∧
      (∀ k ob, lk k outs' = some ob → k < 40 → k ∈ keysOf ins) ∧ ExtX z (InX ins β) w S w' S'' := by
  let β'' : Places := fun j => match (keysOf outs).find? (fun k => σ k == j) with
    | some k => β' k
    | none => β' j
  have hβ : ∀ k, k ∈ keysOf outs → β'' (σ k) = β' k := by
    intro k hk
    simp only [β'']
    cases hf : (keysOf outs).find? (fun k' => σ k' == σ k) with
    | none => have := List.find?_eq_none.1 hf k hk; simp at this
    | some k' =>
      have h1 := List.mem_of_find?_eq_some hf
      have h2 := List.find?_some hf
      simp only [beq_iff_eq] at h2
      simp only [hinj k' k h1 hk h2]
  have hfx : ∀ j, j < 40 → β'' j = β' j := by
    intro j hj
    simp only [β'']
    cases hf : (keysOf outs).find? (fun k' => σ k' == j) with
    | none => rfl
    | some k' =>
      have h2 := List.find?_some hf
      simp only [beq_iff_eq] at h2
      have : k' < 40 := by
        rcases Nat.lt_or_ge k' 40 with h | h
        · exact h
        · have := hhigh k' h; omega
      rw [hlow k' this] at h2
      simp only [h2]
  have hko : ∀ (o : Objs), keysOf (renO σ o) = (keysOf o).map σ := by
    intro o
    induction o with
    | nil => rfl
    | cons p o ih => obtain ⟨j, x⟩ := p; simp only [renO, keysOf, List.map_cons] at ih ⊢; rw [ih]
  refine ⟨_, v, S', β'', renO σ outs, rfl, ⟨rfl, rfl⟩, hrv.rename (p := (· ∈ keysOf outs)) hβ hok, ren_ok (p := (· ∈ keysOf outs)) (fun k hk => by rw [hko]; exact List.mem_map_of_mem hk) hok, ⟨?_, ?_, ?_⟩, ?_, ?_, ?_, hext⟩
  · intro j ob hj
    obtain ⟨k, x, rfl, h1, rfl⟩ := renO_lk hinj hj
    obtain ⟨g1, g2⟩ := hth'.objs k x h1
    exact ⟨g1.rename (p := (· ∈ keysOf outs)) hβ (lk_keys h1) g2, okO_ren (p := (· ∈ keysOf outs)) (fun k hk => by rw [hko]; exact List.mem_map_of_mem hk) g2⟩
  · intro j j' ob ob' hj hj' hne x hx
    obtain ⟨k, y, rfl, h1, rfl⟩ := renO_lk hinj hj
    obtain ⟨k', y', rfl, h1', rfl⟩ := renO_lk hinj hj'
    rw [hβ k (lk_keys h1)] at hx
    rw [hβ k' (lk_keys h1')]
    exact hth'.inj k k' y y' h1 h1' (fun e => hne (by rw [e])) x hx
  · intro j ob hj hw x hx
    obtain ⟨k, y, rfl, h1, rfl⟩ := renO_lk hinj hj
    rw [hβ k (lk_keys h1)] at hx
    rw [wr_ren] at hw
    exact hth'.sep k y h1 hw x hx
  · intro k hk; rw [hfx k hk]; exact hfix k hk
  · intro j ob hj x hx
    obtain ⟨k, y, rfl, h1, rfl⟩ := renO_lk hinj hj
    rw [hβ k (lk_keys h1)] at hx
    rw [wr_ren]
    rcases hown k y h1 x hx with ⟨h4, h5⟩ | h4
    · exact .inl ⟨by rw [hlow k h4]; exact h4, h5⟩
    · exact .inr h4
  · intro j ob hj h40
    obtain ⟨k, y, rfl, h1, rfl⟩ := renO_lk hinj hj
    have : k < 40 := by
      rcases Nat.lt_or_ge k 40 with h | h
      · exact h
      · have := hhigh k h; omega
    rw [hlow k this]
    exact hins k y h1 this
theorem ACz.rename {z : Bool} {f : FuncId} {ins : Objs} {args : List TV} {r0 : TV} {o0 : Objs} {σ : Nat → Nat} (h : ACz z P f ins args fun _ _ r o => r = r0 ∧ o = o0)
    (hinj : ∀ k k', k ∈ keysOf o0 → k' ∈ keysOf o0 → σ k = σ k' → k = k') (hlow : ∀ k, k < 40 → σ k = k) (hhigh : ∀ k, 40 ≤ k → 40 ≤ σ k) :
    ACz z P f ins args fun _ _ r o => r = r0.ren σ ∧ o = renO σ o0 := by
  intro w S β vs hzt hb hkn hl hr ho hth
  refine (h w S β vs hzt hb hkn hl hr ho hth).mono ?_
  rintro e w' ⟨r, v, S', β', outs, rfl, ⟨rfl, rfl⟩, hrv, hok, hth', hfix, hown, hins, hext⟩
  exact rename_out hinj hlow hhigh hrv hok hth' hfix hown hins hext
def awL (P : Program) (c : Code) (Q : Exit → St → Prop) (st : St) : Prop :=
  ∀ (X : Nat → Prop) (β0 : Places) (w0 : World) (S0 : Stable) (a : Act) (w : World), SimE P X β0 w0 S0 st a w → ∀ b k cs, ∃ e a' w',
    (∃ st', Q e st' ∧ SimE P X β0 w0 S0 st' a' w') ∧ Arrives P (lone (b.at a (.code c :: .inLoop c :: k)) cs w) b k cs e a' w'
theorem aw_of_awL {c : Code} {Q : Exit → St → Prop} (h : awL P c Q st) : aw P (.loop c) Q st := by
  intro X β0 w0 S0 a w hs b k cs
  obtain ⟨e, a', w', hq, harr⟩ := h X β0 w0 S0 a w hs b k cs
  exact ⟨e, a', w', hq, .of_steps (.one step_loop) harr⟩
theorem awL_round {c : Code} {Q : Exit → St → Prop} (h : aw P c (fun e s => match e with | .normal => awL P c Q s | .exit id => Q (.exit id) s | .ret => Q .ret s | _ => False) st) : awL P c Q st := by
  intro X β0 w0 S0 a w hs b k cs
  obtain ⟨e, a₁, w₁, ⟨s, hq, hs1⟩, harr⟩ := h X β0 w0 S0 a w hs b (.inLoop c :: k) cs
  cases e with
  | normal =>
    obtain ⟨e₂, a₂, w₂, hq₂, harr₂⟩ := hq X β0 w0 S0 a₁ w₁ hs1 b k cs
    exact ⟨e₂, a₂, w₂, hq₂, .of_steps (Steps.trans harr (.one step_inLoop)) harr₂⟩
  | exit id => exact ⟨_, a₁, w₁, ⟨s, hq, hs1⟩, .pass (x := .inLoop c) rfl (fun _ _ => .inl (by simp)) harr⟩
  | ret => exact ⟨_, a₁, w₁, ⟨s, hq, hs1⟩, .pass (x := .inLoop c) rfl (fun _ _ => .inl (by simp)) harr⟩
  | goto l => exact hq.elim
  | panic l => exact hq.elim
  | outgrown => exact hq.elim
def is (r : Exit × St) : Exit → St → Prop := fun e s => e = r.1 ∧ s = r.2
end
end Go.Av
end
section
set_option linter.unusedVariables false
set_option linter.unusedSimpArgs false
set_option linter.unusedSectionVars false
namespace Go.Av
section
variable [Known] {P : Program} {U : Nat → Prop} {q q' r : St}
structure Fr (U : Nat → Prop) (q q' : St) : Prop where
  o : q'.o = q.o
  ks : q'.ks = q.ks
  n : q'.n = q.n
  sz : q'.sz = q.sz
  u : q'.u = q.u
  g : q'.g = q.g
  t : ∀ x, ¬ U x → lk x q'.t = lk x q.t
def Off (U : Nat → Prop) (x : Operand) : Prop := ∀ d, x = .tmp d → ¬ U d
theorem evc_fr (h : Fr U q q') {x : Operand} (hx : Off U x) : evc q' x = evc q x := by
  cases x with
  | tmp t => simp only [evc]; rw [h.t t (hx t rfl)]
  | _ => rfl
theorem boundOf_fr (h : Fr U q q') {d : Nat} {x : Option Operand} (hx : ∀ y, x = some y → Off U y) : boundOf q' d x = boundOf q d x := by
  cases x with
  | none => rfl
  | some y => simp only [boundOf, evc_fr h (hx y rfl)]
theorem loadAt_fr (h : Fr U q q') {ag : Bool} {sz : Nat} {tv : TV} : loadAt ag sz q' tv = loadAt ag sz q tv := by
  cases tv <;> simp only [loadAt, h.o]
theorem indexAt_fr (h : Fr U q q') {el : Nat} {n : Int} {tv : TV} : indexAt el q' n tv = indexAt el q n tv := by
  unfold indexAt
  rw [h.o]
theorem lenOf_fr (h : Fr U q q') {t : TypeId} {tv : TV} : lenOf P t q' tv = lenOf P t q tv := by
  unfold lenOf
  rw [h.o]
theorem fillTV_fr (h : Fr U q q') {fl : List (Nat × Nat)} : ∀ {ps : List (Nat × Operand)} {cs : List TV}, (∀ p ∈ ps, Off U p.2) → fillTV fl q' ps cs = fillTV fl q ps cs
  | [], _, _ => rfl
  | (f, x) :: ps, cs, hp => by
    simp only [fillTV]
    rw [evc_fr h (x := x) (hp (f, x) (by simp))]
    congr 1
    funext os
    congr 1
    funext new
    congr 1
    funext _
    exact fillTV_fr h (fun p hp' => hp p (List.mem_cons_of_mem _ hp'))
theorem sliceAt_fr (h : Fr U q q') {t : TypeId} {lo hi : Option Operand} (hl : ∀ y, lo = some y → Off U y) (hh : ∀ y, hi = some y → Off U y) {tv : TV} : sliceAt P q' t lo hi tv = sliceAt P q t lo hi tv := by
  unfold sliceAt
  simp only [boundOf_fr h hl, boundOf_fr h hh]
theorem leff_fr (h : Fr U q q') {op : Op} (hx : ∀ x ∈ op.operands, Off U x) : leff P q' op = leff P q op := by
  cases op with
  | move x => simp only [leff, evc_fr h (hx x (by simp [Op.operands]))]
  | assign x => simp only [leff, evc_fr h (hx x (by simp [Op.operands]))]
  | pick c a b => simp only [leff, evc_fr h (hx c (by simp [Op.operands])), evc_fr h (hx a (by simp [Op.operands])), evc_fr h (hx b (by simp [Op.operands]))]
  | box e x => simp only [leff, evc_fr h (hx x (by simp [Op.operands]))]
  | load t x => simp only [leff, evc_fr h (hx x (by simp [Op.operands])), loadAt_fr h]
  | fieldAddr s x f => simp only [leff, evc_fr h (hx x (by simp [Op.operands]))]
  | indexAddr t x i => simp only [leff, evc_fr h (hx x (by simp [Op.operands])), evc_fr h (hx i (by simp [Op.operands])), indexAt_fr h]
  | binOp o t x y t2 => simp only [leff, evc_fr h (hx x (by simp [Op.operands])), evc_fr h (hx y (by simp [Op.operands]))]
  | unOp o t x => simp only [leff, evc_fr h (hx x (by simp [Op.operands]))]
  | slice t x lo hi mx =>
    cases mx with
    | some m => rfl
    | none =>
      simp only [leff, evc_fr h (hx x (by simp [Op.operands]))]
      rw [sliceAt_fr h (fun y hy => hx y (by simp [Op.operands, hy])) (fun y hy => hx y (by simp [Op.operands, hy]))]
  | index t x i => simp only [leff, evc_fr h (hx x (by simp [Op.operands])), evc_fr h (hx i (by simp [Op.operands]))]
  | convert s d x =>
    have e1 : ∀ tv, convPtr P q' s d tv = convPtr P q s d tv := fun tv => by unfold convPtr toUns fromUns; simp only [h.o]
    simp only [leff, evc_fr h (hx x (by simp [Op.operands])), e1]
  | nilCheck x => simp only [leff, evc_fr h (hx x (by simp [Op.operands]))]
  | build t parts =>
    simp only [leff]
    congr 1
    funext fl
    congr 1
    funext z
    rw [fillTV_fr h]
    intro p hp
    refine hx p.2 ?_
    simp only [Op.operands, List.mem_toArray, List.mem_map]
    exact ⟨p, hp, rfl⟩
  | extract x i => simp only [leff, evc_fr h (hx x (by simp [Op.operands]))]
  | makeFunc f first cap =>
    cases f with
    | func f =>
      simp only [leff]
      congr 1
      funext _
      congr 3
      refine List.map_congr_left fun x hx' => evc_fr h (hx x ?_)
      simp only [Op.operands, Array.mem_append]
      exact .inr (by simpa using hx')
    | _ => rfl
  | call c =>
    simp only [leff]
    cases hc : c.callee with
    | builtin b =>
      cases b <;> first | rfl | skip
      case unsafeSliceData =>
        show bleff P q' c.args c.argTypes _ = bleff P q c.args c.argTypes _
        simp only [bleff]
        cases ha : c.args[0]? with
        | none => rfl
        | some x =>
          simp only [ob]
          have : Off U x := hx x (by simp only [Op.operands, Call.operands, hc]; simp [Array.mem_of_getElem? ha])
          rw [evc_fr h this]
          have e1 : ∀ tv, sliceDataAt q' tv = sliceDataAt q tv := fun tv => by unfold sliceDataAt; simp only [h.o]
          rw [e1]
      simp only [bleff]
      cases ha : c.args[0]? with
      | none => rfl
      | some x =>
        simp only [ob]
        have : Off U x := hx x (by simp only [Op.operands, Call.operands, hc]; simp [Array.mem_of_getElem? ha])
        rw [evc_fr h this]
        cases c.argTypes[0]? with
        | none => rfl
        | some t => simp only [lenOf_fr h]
    | _ => rfl
  | _ => rfl
def Goes (U : Nat → Prop) (d : Option Nat) (r : St) (x : Option St) : Prop := ∃ r', x = some r' ∧ Fr (fun i => U i ∧ d ≠ some i) r r'
theorem put_fr (h : Fr U q q') {x : TV} {d : Option Nat} (e : put q x d = some r) : Goes U d r (put q' x d) := by
  cases d with
  | none => cases e; exact ⟨q', rfl, h.o, h.ks, h.n, h.sz, h.u, h.g, fun i hi => h.t i (fun hu => hi ⟨hu, by simp⟩)⟩
  | some d =>
    obtain ⟨_, h1, e⟩ := ob_eq_some e
    cases e
    refine ⟨{ t := (d, x) :: q'.t, o := q'.o, ks := q'.ks, n := q'.n, sz := q'.sz, u := q'.u, g := q'.g }, ?_, h.o, h.ks, h.n, h.sz, h.u, h.g, fun i hi => ?_⟩
    · simp only [put]; rw [h.sz, h1]; rfl
    · by_cases hid : i = d
      · subst hid; rw [lk_cons_eq, lk_cons_eq]
      · rw [lk_cons_ne _ _ hid, lk_cons_ne _ _ hid]; exact h.t i (fun hu => hi ⟨hu, fun e => hid (by cases e; rfl)⟩)
theorem frz_fr (h : Fr U q q') (l : List Nat) : Fr U (Av.frz q l) (Av.frz q' l) := by
  induction l generalizing q q' with
  | nil => exact h
  | cons k l ih =>
    simp only [Av.frz]
    refine ih ?_
    rw [h.o]
    cases lk k q.o with
    | none => exact h
    | some x => exact ⟨by simp only [Av.frz1, h.o, h.g], h.ks, h.n, h.sz, h.u, by simp only [Av.frz1, h.g], h.t⟩
theorem toTs_fr (h : Fr U q q') : ∀ (l : List TV), toTs q' l = toTs q l
  | [] => rfl
  | .d t :: l => by simp only [toTs, toTs_fr h l]
  | .nl :: l => by simp only [toTs, toTs_fr h l]
  | .own k :: l => by simp only [toTs, toTs_fr h l, h.o]
  | .unk :: l => rfl
  | .agg _ :: l => rfl
  | .tup _ :: l => rfl
  | .ptr _ _ :: l => rfl
  | .ap _ _ _ :: l => rfl
  | .rp _ :: l => rfl
  | .clo _ _ :: l => rfl
  | .fn _ :: l => rfl
theorem storeObj_fr (h : Fr U q q') {k off i f sz : Nat} {new : List TV} {b : Bool} {o : Obj} (e : storeObj q k off i f sz new b o = some r) : ∃ r', storeObj q' k off i f sz new b o = some r' ∧ Fr U r r' := by
  cases o with
  | box cs ty =>
    cases b with
    | true => cases e
    | false =>
      simp only [storeObj] at e ⊢
      obtain ⟨_, h1, e⟩ := ob_eq_some e
      cases e
      refine ⟨{ t := q'.t, o := (k, .box (setSeg off new cs) ty) :: q'.o, ks := q'.ks, n := q'.n, sz := q'.sz, u := q'.u, g := q'.g }, by unfold storeBox; rw [h1]; rfl, by simp only [h.o], h.ks, h.n, h.sz, h.u, h.g, h.t⟩
  | arr A m es =>
    cases b with
    | false => cases e
    | true =>
      simp only [storeObj] at e ⊢
      unfold storeArr at e ⊢
      obtain ⟨x, h1, e⟩ := ob_eq_some e
      obtain ⟨ts, h2, e⟩ := ob_eq_some e
      obtain ⟨_, h3, e⟩ := ob_eq_some e
      cases e
      refine ⟨{ t := q'.t, o := (k, .arr A m (es.set i (setSeg f ts x))) :: q'.o, ks := q'.ks, n := q'.n, sz := q'.sz, u := q'.u, g := q'.g }, ?_, by simp only [h.o], h.ks, h.n, h.sz, h.u, h.g, h.t⟩
      rw [toTs_fr h, h1, h2]
      simp only [ob]
      rw [h3]
  | fz _ _ _ => cases e
theorem storeAt_fr (h : Fr U q q') {sz : Nat} {new : List TV} {tv : TV} (e : storeAt q sz new tv = some r) : ∃ r', storeAt q' sz new tv = some r' ∧ Fr U r r' := by
  cases tv with
  | ptr k off =>
    simp only [storeAt] at e ⊢
    rw [h.o]
    obtain ⟨o, h1, e⟩ := ob_eq_some e
    rw [h1]
    exact storeObj_fr h e
  | ap k i f =>
    simp only [storeAt] at e ⊢
    have hf := frz_fr h (ownKeysL new)
    rw [hf.o]
    obtain ⟨o, h1, e⟩ := ob_eq_some e
    rw [h1]
    exact storeObj_fr hf e
  | _ => cases e
theorem scrT_lk' {k i : Nat} : ∀ {l : List (Nat × TV)}, lk i (scrT k l) = (lk i l).map (TV.scr k)
  | [] => rfl
  | (j, x) :: l => by
    simp only [scrT]
    by_cases hij : i = j
    · subst hij; rw [lk_cons_eq, lk_cons_eq]; rfl
    · rw [lk_cons_ne _ _ hij, lk_cons_ne _ _ hij]; exact scrT_lk'
theorem mkArr_fr (h : Fr U q q') {d m : Nat} {es : List (List T)} {A : Ann} (e : mkArr q d m es A = some r) : Goes U (some d) r (mkArr q' d m es A) := by
  unfold mkArr at e ⊢
  obtain ⟨_, h1, e⟩ := ob_eq_some e
  cases e
  refine ⟨{ t := (d, .own (kOf d)) :: q'.t, o := (kOf d, .arr A m es) :: q'.o, ks := kOf d :: q'.ks, n := q'.n, sz := q'.sz, u := q'.u, g := q'.g }, ?_, by simp only [h.o], by simp only [h.ks], h.n, h.sz, h.u, h.g, fun i hi => ?_⟩
  · rw [h.sz, h.ks, h1]; rfl
  · by_cases hid : i = d
    · subst hid; rw [lk_cons_eq, lk_cons_eq]
    · rw [lk_cons_ne _ _ hid, lk_cons_ne _ _ hid]; exact h.t i (fun hu => hi ⟨hu, fun e => hid (by cases e; rfl)⟩)
theorem fillEs_fr (h : Fr U q q') {sz : Nat} : ∀ {ps : List (Nat × Operand)} {es : List (List T)}, (∀ p ∈ ps, Off U p.2) → fillEs q' sz ps es = fillEs q sz ps es
  | [], _, _ => rfl
  | (i, x) :: ps, es, hp => by
    simp only [fillEs]
    rw [evc_fr h (x := x) (hp (i, x) (by simp))]
    congr 1
    funext new
    rw [toTs_fr h]
    congr 1
    funext ts
    congr 1
    funext _
    exact fillEs_fr h (fun p hp' => hp p (List.mem_cons_of_mem _ hp'))
theorem partKeys_fr (h : Fr U q q') : ∀ {ps : List (Nat × Operand)}, (∀ p ∈ ps, Off U p.2) → partKeys q' ps = partKeys q ps
  | [], _ => rfl
  | (i, x) :: ps, hp => by
    simp only [partKeys]
    rw [evc_fr h (x := x) (hp (i, x) (by simp)), partKeys_fr h (fun p hp' => hp p (List.mem_cons_of_mem _ hp'))]
theorem readEs_fr (h : Fr U q q') {m : Nat} {tv : TV} : readEs q' m tv = readEs q m tv := by
  unfold readEs; rw [h.o]
theorem baseEs_fr (h : Fr U q q') {d m : Nat} {tv : TV} : baseEs q' d m tv = baseEs q d m tv := by
  unfold baseEs; rw [h.o, h.ks]
theorem effOn_fr (h : Fr U q q') {d : Option Nat} {x : Eff} (e : effOn q d x = some r) : Goes U d r (effOn q' d x) := by
  cases x with
  | val x => exact put_fr h e
  | box cs ty =>
    simp only [effOn] at e ⊢
    obtain ⟨d', hd, e1⟩ := ob_eq_some e
    clear e
    subst hd
    simp only [ob]
    obtain ⟨_, h1, e2⟩ := ob_eq_some e1
    clear e1
    cases e2
    refine ⟨{ t := (d', .ptr (kOf d') 0) :: q'.t, o := (kOf d', .box cs ty) :: q'.o, ks := kOf d' :: q'.ks, n := q'.n, sz := q'.sz, u := q'.u, g := q'.g }, ?_, by simp only [h.o], by simp only [h.ks], h.n, h.sz, h.u, h.g, fun i hi => ?_⟩
    · rw [h.sz, h.ks, h1]
    · by_cases hid : i = d'
      · subst hid; rw [lk_cons_eq, lk_cons_eq]
      · rw [lk_cons_ne _ _ hid, lk_cons_ne _ _ hid]; exact h.t i (fun hu => hi ⟨hu, fun e => hid (by cases e; rfl)⟩)
theorem lop_fr (h : Fr U q q') {o : Oper} (hx : ∀ x ∈ o.op.operands, Off U x) (e : lop P q o = some r) : Goes U o.dst r (lop P q' o) := by
  unfold lop at e ⊢
  rw [leff_fr h hx]
  obtain ⟨eff, h1, e⟩ := ob_eq_some e
  rw [h1]
  exact effOn_fr h e
theorem eop_fr (h : Fr U q q') {o : Oper} (hx : ∀ x ∈ o.op.operands, Off U x) (e : eop P q o o.op = some r) : Goes U o.dst r (eop P q' o o.op) := by
  have other : lop P q o = some r → Goes U o.dst r (lop P q' o) := lop_fr h hx
  cases hop : o.op with
  | store t x v =>
    rw [hop] at e hx
    simp only [eop] at e ⊢
    obtain ⟨s, h1, e⟩ := ob_eq_some e
    unfold astore at h1 ⊢
    rw [evc_fr h (hx v (by simp [Op.operands])), evc_fr h (hx x (by simp [Op.operands]))]
    obtain ⟨new, h2, h1⟩ := ob_eq_some h1
    obtain ⟨_, h3, h1⟩ := ob_eq_some h1
    rw [h2, ob_some, h3, ob_some]
    obtain ⟨s', h4, h5⟩ := storeAt_fr h h1
    rw [h4]
    exact put_fr h5 e
  | call c =>
    rw [hop] at e hx
    simp only [eop] at e ⊢
    cases hc : c.callee with
    | value f => rw [hc] at e; cases e
    | invoke a b => rw [hc] at e; exact other e
    | builtin b =>
      rw [hc] at e
      by_cases hb : b = .append
      · subst hb
        simp only at e ⊢
        cases hty : c.argTypes.toList with
        | nil => rw [hty] at e; cases e
        | cons t l =>
          cases l with
          | nil => rw [hty] at e; cases e
          | cons u l =>
            cases l with
            | cons _ _ => rw [hty] at e; cases e
            | nil =>
              cases hax : c.args.toList with
              | nil => rw [hty, hax] at e; cases e
              | cons sx l =>
                cases l with
                | nil => rw [hty, hax] at e; cases e
                | cons x l =>
                  cases l with
                  | cons _ _ => rw [hty, hax] at e; cases e
                  | nil =>
                    rw [hty, hax] at e
                    simp only at e ⊢
                    have hm : ∀ y, y ∈ c.args.toList → Off U y := fun y hy => hx y (by simp only [Op.operands, Call.operands, hc]; simpa using hy)
                    rw [evc_fr h (hm sx (by rw [hax]; simp)), evc_fr h (hm x (by rw [hax]; simp))]
                    unfold eappend at e ⊢
                    obtain ⟨d, h1, e⟩ := ob_eq_some e
                    obtain ⟨el, h2, e⟩ := ob_eq_some e
                    obtain ⟨z, h3, e⟩ := ob_eq_some e
                    obtain ⟨bb, h4, e⟩ := ob_eq_some e
                    obtain ⟨new, h5, e⟩ := ob_eq_some e
                    obtain ⟨_, h6, e⟩ := ob_eq_some e
                    obtain ⟨_, h7, e⟩ := ob_eq_some e
                    rw [h1, ob_some, h2, ob_some, h3, ob_some, baseEs_fr h, h4, ob_some, readEs_fr h, h5, ob_some, h6, ob_some, h7, ob_some]
                    unfold apSt at e ⊢
                    obtain ⟨_, h8, e⟩ := ob_eq_some e
                    cases e
                    refine ⟨{ t := (d, .own bb.1) :: scrT bb.1 q'.t, o := (bb.1, .arr (apAnn (elAnn P el) bb.2.1) (tySize P el) (bb.2.2 ++ new)) :: scrO bb.1 q'.o, ks := bb.1 :: q'.ks, n := q'.n, sz := q'.sz, u := q'.u, g := q'.g }, ?_, by simp only [h.o], by simp only [h.ks], h.n, h.sz, h.u, h.g, fun i hi => ?_⟩
                    · rw [h.sz, h8]; rfl
                    · by_cases hid : i = d
                      · subst hid; rw [lk_cons_eq, lk_cons_eq]
                      · rw [lk_cons_ne _ _ hid, lk_cons_ne _ _ hid, scrT_lk', scrT_lk', h.t i (fun hu => hi ⟨hu, fun e => hid (by cases e; rfl)⟩)]
      · by_cases hb2 : b = .unsafeString
        · subst hb2
          simp only at e ⊢
          cases hty : c.argTypes.toList with
          | nil => rw [hty] at e; cases e
          | cons t l =>
            cases l with
            | nil => rw [hty] at e; cases e
            | cons u l =>
              cases l with
              | cons _ _ => rw [hty] at e; cases e
              | nil =>
                cases hax : c.args.toList with
                | nil => rw [hty, hax] at e; cases e
                | cons sx l =>
                  cases l with
                  | nil => rw [hty, hax] at e; cases e
                  | cons x l =>
                    cases l with
                    | cons _ _ => rw [hty, hax] at e; cases e
                    | nil =>
                      rw [hty, hax] at e
                      simp only at e ⊢
                      have hm : ∀ y, y ∈ c.args.toList → Off U y := fun y hy => hx y (by simp only [Op.operands, Call.operands, hc]; simpa using hy)
                      rw [evc_fr h (hm sx (by rw [hax]; simp)), evc_fr h (hm x (by rw [hax]; simp))]
                      unfold eunstr at e ⊢
                      obtain ⟨q1, h1, e⟩ := ob_eq_some e
                      obtain ⟨y, h2, e⟩ := ob_eq_some e
                      have hu : unstrK P q' t (evc q sx) (evc q x) = unstrK P q t (evc q sx) (evc q x) := by unfold unstrK; rw [h.o]
                      obtain ⟨y2, h3, e⟩ := ob_eq_some e
                      rw [h.g, h1, ob_some, hu, h2, ob_some, h3, ob_some]
                      exact put_fr (frz_fr h _) e
        · cases b <;> first | exact absurd rfl hb | exact absurd rfl hb2 | exact other e
  | convert src d x =>
    rw [hop] at e hx
    simp only [eop] at e ⊢
    cases hti : tyInt P d with
    | some k => rw [hti] at e; exact other e
    | none =>
      rw [hti] at e
      simp only at e ⊢
      rw [evc_fr h (hx x (by simp [Op.operands]))]
      cases hst : tyStr P d with
      | true =>
        rw [hst] at e
        simp only at e ⊢
        have hs : strEs q' (evc q x) = strEs q (evc q x) := by unfold strEs; rw [h.o]
        rw [hs]
        unfold estr at e ⊢
        obtain ⟨_, h1, e⟩ := ob_eq_some e
        obtain ⟨es, h2, e⟩ := ob_eq_some e
        obtain ⟨y, h3, e⟩ := ob_eq_some e
        rw [h1, ob_some, h2, ob_some, h3, ob_some]
        exact put_fr h e
      | false =>
        rw [hst] at e
        simp only at e ⊢
        cases hip : isPtr (evc q x) with
        | true => rw [hip] at e; exact other e
        | false =>
        rw [hip] at e
        simp only at e ⊢
        unfold ebytes at e ⊢
        split at e
        · obtain ⟨_, h1, e⟩ := ob_eq_some e
          rw [h1, ob_some]
          exact put_fr h e
        · cases e
  | makeSlice t l c =>
    rw [hop] at e hx
    simp only [eop] at e ⊢
    rw [evc_fr h (hx l (by simp [Op.operands])), evc_fr h (hx c (by simp [Op.operands]))]
    unfold emake at e ⊢
    obtain ⟨d, h1, e⟩ := ob_eq_some e
    obtain ⟨el, h2, e⟩ := ob_eq_some e
    obtain ⟨z, h3, e⟩ := ob_eq_some e
    obtain ⟨n, h4, e⟩ := ob_eq_some e
    obtain ⟨n', h5, e⟩ := ob_eq_some e
    obtain ⟨_, h6, e⟩ := ob_eq_some e
    obtain ⟨_, h7, e⟩ := ob_eq_some e
    rw [h1, ob_some, h2, ob_some, h3, ob_some, h4, ob_some, h5, ob_some, h6, ob_some, h7, ob_some]
    exact mkArr_fr h e
  | buildSlice t len parts =>
    rw [hop] at e hx
    simp only [eop] at e ⊢
    have hp : ∀ p ∈ parts.toList, Off U p.2 := fun p hp => hx p.2 (by simp only [Op.operands, List.mem_toArray, List.mem_map]; exact ⟨p, hp, rfl⟩)
    unfold ebuild at e ⊢
    obtain ⟨d, h1, e⟩ := ob_eq_some e
    obtain ⟨el, h2, e⟩ := ob_eq_some e
    obtain ⟨z, h3, e⟩ := ob_eq_some e
    obtain ⟨es, h4, e⟩ := ob_eq_some e
    obtain ⟨_, h6, e⟩ := ob_eq_some e
    rw [h1, ob_some, h2, ob_some, h3, ob_some, partKeys_fr h hp, fillEs_fr (frz_fr h _) hp, h4, ob_some, h6, ob_some]
    exact mkArr_fr (frz_fr h _) e
  | slice t x lo hi mx =>
    rw [hop] at e hx
    have hlo : ∀ y, lo = some y → Off U y := fun y hy => hx y (by simp [Op.operands, hy])
    have hhi : ∀ y, hi = some y → Off U y := fun y hy => hx y (by simp [Op.operands, hy])
    cases mx with
    | none =>
      simp only [eop] at e ⊢
      rw [evc_fr h (hx x (by simp [Op.operands]))]
      cases hv : evc q x with
      | own k =>
        rw [hv] at e
        simp only [eslice] at e ⊢
        have old : ∀ lo hi, (∀ y, lo = some y → Off U y) → (∀ y, hi = some y → Off U y) → eslice2 P q o t lo hi k = some r → Goes U o.dst r (eslice2 P q' o t lo hi k) := by
          intro lo hi hlo hhi e
          unfold eslice2 at e ⊢
          have hf := frz_fr h [k]
          rw [hf.o]
          obtain ⟨oo, h1, e⟩ := ob_eq_some e
          rw [h1, ob_some]
          cases oo with
          | fz A m es =>
            simp only at e ⊢
            obtain ⟨z, h2, e⟩ := ob_eq_some e
            rw [sliceAt_fr hf hlo hhi, h2]
            exact put_fr hf e
          | _ => cases e
        split at e
        · rename_i y
          rw [h.o]
          obtain ⟨oo, h1, e⟩ := ob_eq_some e
          rw [h1, ob_some]
          cases oo with
          | arr A m es =>
            simp only [eslice1] at e ⊢
            by_cases h40 : 40 ≤ k
            case neg => rw [decide_eq_false h40, cond_false] at e ⊢; exact old _ _ hlo hhi e
            rw [decide_eq_true h40, cond_true] at e ⊢
            obtain ⟨d, hd, e⟩ := ob_eq_some e
            obtain ⟨n, hn, e⟩ := ob_eq_some e
            rw [hd, ob_some, evc_fr h (hhi y rfl), hn, ob_some]
            unfold resl at e ⊢
            obtain ⟨el, hel, e⟩ := ob_eq_some e
            obtain ⟨_, hc, e⟩ := ob_eq_some e
            cases e
            rw [hel, ob_some, h.sz, hc, ob_some]
            refine ⟨_, rfl, by simp only [h.o], by simp only [h.ks], h.n, rfl, h.u, h.g, fun i hi => ?_⟩
            by_cases hid : i = d
            · subst hid; rw [lk_cons_eq, lk_cons_eq]
            · rw [lk_cons_ne _ _ hid, lk_cons_ne _ _ hid, scrT_lk', scrT_lk', h.t i (fun hu => hi ⟨hu, fun e => hid (by cases e; rfl)⟩)]
          | fz A m es => exact old _ _ hlo hhi e
          | box cs ty => cases e
        · exact old _ _ hlo hhi e
      | d tt => rw [hv] at e; exact other e
      | _ => rw [hv] at e; cases e
    | some m =>
      simp only [eop] at e ⊢
      rw [evc_fr h (hx x (by simp [Op.operands]))]
      unfold ezero at e ⊢
      obtain ⟨el, h1, e⟩ := ob_eq_some e
      obtain ⟨a, h2, e⟩ := ob_eq_some e
      obtain ⟨b, h3, e⟩ := ob_eq_some e
      obtain ⟨_, h4, e9⟩ := ob_eq_some e
      obtain ⟨y, hy, h2⟩ := Option.bind_eq_some_iff.1 h2
      obtain ⟨y', hy', h3⟩ := Option.bind_eq_some_iff.1 h3
      cases hy'
      subst hy
      have e1 : ((some y).bind fun h => intOfTV (evc q' h)) = some a := by simp only [Option.bind_some, evc_fr h (hhi y rfl)]; exact h2
      have e2 : ((some m).bind fun h => intOfTV (evc q' h)) = some b := by simp only [Option.bind_some, evc_fr h (hx m (by simp [Op.operands]))]; exact h3
      rw [h1, ob_some, e1, ob_some, e2, ob_some, h4, ob_some]
      exact put_fr h e9
  | _ => rw [hop] at e; exact other e
theorem prep1_fr (h : Fr U q q') (g : FuncId) (z : Bool) (fk : List Nat) (args : List TV) : prep1 q' g z fk args = prep1 q g z fk args := by
  unfold prep1; rw [h.o]
theorem prep_fr {C : Cfg} (h : Fr U q q') (f : TV) (args : List TV) : prep C q' f args = prep C q f args := by
  cases f with
  | clo g cap =>
    simp only [prep, prep2]
    cases C.Y g with
    | true => rw [h.g]; exact prep1_fr h _ _ _ _
    | false => rw [h.o, h.g]; exact prep1_fr (frz_fr h _) _ _ _ _
  | _ => rfl
theorem post_fr (h : Fr U q q') {d : Option Nat} {p : Prep} {x : TV × Objs} (e : post q d p x = some r) : Goes U d r (post q' d p x) := by
  unfold post at e ⊢
  rw [h.ks]
  obtain ⟨_, h1, e⟩ := ob_eq_some e
  rw [h1, ob_some]
  have hf := frz_fr h p.fk
  have hm : ∀ b os, Fr U (merge (bumpZ b (Av.frz q p.fk)) p.ins (nth p.κ) d os 0) (merge (bumpZ b (Av.frz q' p.fk)) p.ins (nth p.κ) d os 0) := by
    intro b os
    refine ⟨by simp only [merge, bumpZ, hf.o], by simp only [merge, bumpZ, hf.ks], rfl, hf.sz, hf.u, by simp only [merge, bumpZ, hf.g], hf.t⟩
  cases hz : p.z with
  | false =>
    rw [hz] at e
    exact put_fr (hm false x.2) e
  | true =>
    rw [hz] at e
    unfold postZ at e ⊢
    simp only at e ⊢
    obtain ⟨_, h2, e⟩ := ob_eq_some e
    rw [h2, ob_some, hf.g]
    exact put_fr (hm true _) e
end
end Go.Av
end
section
set_option linter.unusedVariables false
set_option linter.unusedSimpArgs false
set_option linter.unusedSectionVars false
namespace Go.Av
section
variable [Known] {P : Program} {X : Nat → Prop} {β0 : Places} {w0 w : World} {S0 : Stable} {a : Act} {U : Nat → Prop} {q q' r : St}
theorem SLe.sub {s1 s : St} (ht : ∀ i tv, lk i s1.t = some tv → lk i s.t = some tv) (ho : s1.o = s.o) (hk : s1.ks = s.ks) (hn : s1.n ≤ s.n) (hz : s1.sz = s.sz) (hu : s1.u = s.u) (hg : s1.g = s.g) : SLe P s1 s := by
  rintro X β0 w0 S0 a w ⟨S, β, h⟩
  refine SLe.of (fun i tv hl => ?_) (fun k ob hl => ?_) hn hz hu hg X β0 w0 S0 a w ⟨S, β, h⟩
  · obtain ⟨v, _, _, h3⟩ := h.tmps i tv (ht i tv hl)
    rw [hk]
    exact ⟨h3, tv, ht i tv hl, .refl _⟩
  · rw [ho] at hl
    obtain ⟨_, g2, g3⟩ := h.objs k ob hl
    rw [hk]
    exact ⟨g2, g3, ob, hl, .refl _⟩
theorem Fr.sle (h : Fr U q q') (hU : ∀ x, ¬ U x) : SLe P q q' :=
  .sub (fun i tv hl => by rw [h.t i (hU i)]; exact hl) h.o.symm h.ks.symm (by rw [h.n]; exact Nat.le_refl _) h.sz.symm h.u.symm h.g.symm
variable {ops : Array Oper} {pl : Plan}
theorem off_of {o : Oper} (h : ∀ d ∈ o.looksAt ops, ¬ U d) : ∀ x ∈ o.op.operands, Off U x := by
  intro x hx d hd
  refine h d ?_
  unfold Oper.looksAt
  exact List.mem_append_left _ (List.mem_filterMap.2 ⟨x, by simpa using hx, by rw [hd]⟩)
theorem gval_fr (h : Fr U q q') {o : Oper} (hl : ∀ d ∈ o.looksAt ops, ¬ U d) : gval ops q' o = gval ops q o := by
  unfold gval
  cases hg : o.guard with
  | none => rfl
  | some p =>
    obtain ⟨j, w⟩ := p
    simp only []
    cases hj : ops[j]? with
    | none => rfl
    | some oj =>
      simp only [ob]
      cases hd : oj.dst with
      | none => rfl
      | some d =>
        simp only []
        have : Off U (.tmp d) := by
          intro d' e
          cases e
          refine hl d ?_
          unfold Oper.looksAt
          refine List.mem_append_right _ ?_
          rw [hg]
          simp [hj, hd]
        rw [evc_fr h this]
theorem pv_fr (h : Fr U q q') {o : Oper} (hl : ∀ d ∈ o.looksAt ops, ¬ U d) : pv P ops q' o = pv P ops q o := by
  unfold pv
  rw [gval_fr h hl]
  cases gval ops q o with
  | none => rfl
  | some b =>
    cases b with
    | false => rfl
    | true => simp only [pv1]; rw [leff_fr h (off_of hl)]
structure PlanH (ops : Array Oper) (pl : Plan) : Prop where
  mem : ∀ i, i < ops.size → i ∈ pl.p0 ++ part pl.ss
  ah : ahead ops [] (pl.p0 ++ part pl.ss) = true
  dir : ∀ i o, ops[i]? = some o → ∀ e ∈ o.after, bindsA e = true → e.on ∈ ancOf pl i
  trans : ∀ i o, ops[i]? = some o → ∀ k ∈ ancOf pl i, ∃ e ∈ o.after, bindsA e = true ∧ (k = e.on ∨ k ∈ ancOf pl e.on)
  look : ∀ (i : Nat) (o : Oper), ops[i]? = some o → ∀ (k : Nat) (ok : Oper) (d : Nat), ops[k]? = some ok → ok.dst = some d → d ∈ o.looksAt ops → k ∈ ancOf pl i ∨ (k ∈ effs pl.ss ∧ i ∈ ancOf pl k)
  eff : ∀ k ∈ effs pl.ss, k ∉ pl.p0 ++ pus pl.ss
  dst : ∀ (i : Nat) (o : Oper), ops[i]? = some o → ∀ (k : Nat) (ok : Oper) (d : Nat), ops[k]? = some ok → ok.dst = some d → o.dst = some d → k = i
  p0 : puOk pl pl.p0 = true
  ss : ssOk pl none pl.p0 pl.ss = true
theorem planH (h : planOk ops pl = true) : PlanH ops pl := by
  unfold planOk at h
  simp only [Bool.and_eq_true] at h
  obtain ⟨⟨⟨⟨⟨h1, h2⟩, h3⟩, h4⟩, h5⟩, h6⟩ := h
  have lt : ∀ {i : Nat} {o : Oper}, ops[i]? = some o → i < ops.size := fun h => (Array.getElem?_eq_some_iff.1 h).1
  have h3' : ∀ i o, ops[i]? = some o → ancOk ops pl i = true := fun i o ho => List.all_eq_true.1 h3 i (List.mem_range.2 (lt ho))
  refine ⟨fun i hi => hasKey_iff.1 (List.all_eq_true.1 h1 i (List.mem_range.2 hi)), h2, ?_, ?_, ?_, fun k hk hm => (by have := List.all_eq_true.1 h6 k hk; rw [hasKey_iff.2 hm] at this; cases this), ?_, h4, h5⟩
  · intro i o ho e he hb
    have := h3' i o ho
    unfold ancOk at this
    simp only [ho, Bool.and_eq_true] at this
    have := List.all_eq_true.1 this.1.1.1 e (by simpa using he)
    rw [hb] at this
    exact hasKey_iff.1 (by simpa using this)
  · intro i o ho k hk
    have := h3' i o ho
    unfold ancOk at this
    simp only [ho, Bool.and_eq_true] at this
    have := List.all_eq_true.1 this.1.1.2 k hk
    obtain ⟨e, he, hh⟩ := List.any_eq_true.1 this
    simp only [Bool.and_eq_true, Bool.or_eq_true, beq_iff_eq] at hh
    exact ⟨e, by simpa using he, hh.1, hh.2.imp id hasKey_iff.1⟩
  · intro i o ho k ok d hk hd hl
    have := h3' i o ho
    unfold ancOk at this
    simp only [ho, Bool.and_eq_true] at this
    have := List.all_eq_true.1 this.1.2 k (List.mem_range.2 (lt hk))
    simp only [hk, Option.bind_some, hd, Bool.or_eq_true, Bool.not_eq_true'] at this
    rcases this with h | h | h
    · rw [hasKey_iff.2 hl] at h; cases h
    · exact .inl (hasKey_iff.1 h)
    · rw [Bool.and_eq_true] at h
      exact .inr ⟨hasKey_iff.1 h.1, hasKey_iff.1 h.2⟩
  · intro i o ho k ok d hk hd hd2
    have := h3' i o ho
    unfold ancOk at this
    simp only [ho, Bool.and_eq_true] at this
    have := List.all_eq_true.1 this.2 k (List.mem_range.2 (lt hk))
    simp only [hk, Option.bind_some, hd, Bool.or_eq_true, beq_iff_eq, hd2, bne_self_eq_false, Bool.false_eq_true, or_false] at this
    exact this
def dsts (ops : Array Oper) (l : List Nat) (d : Nat) : Prop := ∃ i ∈ l, ∃ o, ops[i]? = some o ∧ o.dst = some d
theorem put_back {x : TV} {d : Option Nat} (e : put q x d = some r) : r.o = q.o ∧ r.ks = q.ks ∧ r.n = q.n ∧ r.sz = q.sz ∧ r.u = q.u ∧ r.g = q.g ∧ (∀ i, d ≠ some i → lk i r.t = lk i q.t) ∧ (∀ i, d = some i → lk i r.t = some x ∧ i < q.sz) := by
  cases d with
  | none => cases e; exact ⟨rfl, rfl, rfl, rfl, rfl, rfl, fun _ _ => rfl, fun i h => by cases h⟩
  | some d =>
    obtain ⟨_, h1, e⟩ := ob_eq_some e
    cases e
    refine ⟨rfl, rfl, rfl, rfl, rfl, rfl, fun i hi => ?_, fun i hi => ?_⟩
    · exact lk_cons_ne _ _ (fun e => hi (by rw [e]))
    · cases hi; exact ⟨lk_cons_eq _ _ _, of_decide_eq_true (chk_eq_some h1)⟩
theorem evPu_fr : ∀ {l : List Nat} {q r : St}, evPu P ops l q = some r → Fr (dsts ops l) r q
  | [], q, r, e => by cases e; exact ⟨rfl, rfl, rfl, rfl, rfl, rfl, fun _ _ => rfl⟩
  | i :: l, q, r, e => by
    obtain ⟨o, h1, e⟩ := ob_eq_some e
    obtain ⟨x, h2, e⟩ := ob_eq_some e
    obtain ⟨s, h3, e⟩ := ob_eq_some e
    obtain ⟨a1, a2, a3, a4, a5, a5g, a6, _⟩ := put_back h3
    have ih := evPu_fr e
    refine ⟨a1.symm.trans ih.o, a2.symm.trans ih.ks, a3.symm.trans ih.n, a4.symm.trans ih.sz, a5.symm.trans ih.u, a5g.symm.trans ih.g, fun d hd => ?_⟩
    rw [← a6 d (fun e => hd ⟨i, by simp, o, h1, e⟩)]
    exact ih.t d (fun ⟨j, hj, hh⟩ => hd ⟨j, List.mem_cons_of_mem _ hj, hh⟩)
def Valid (P : Program) (ops : Array Oper) (s : St) (i : Nat) : Prop := ∃ o x, ops[i]? = some o ∧ pv P ops s o = some x ∧ ∀ d, o.dst = some d → lk d s.t = some x ∧ d < s.sz
theorem evPu_valid (hP : PlanH ops pl) : ∀ {l : List Nat} {q r : St}, evPu P ops l q = some r → puOk pl l = true → (∀ k ∈ l, k ∈ pl.p0 ++ pus pl.ss) → ∀ i ∈ l, Valid P ops r i
  | [], _, _, _, _, _, i, hi => by cases hi
  | j :: l, q, r, e, hp, hpur, i, hi => by
    obtain ⟨o, h1, e⟩ := ob_eq_some e
    obtain ⟨x, h2, e⟩ := ob_eq_some e
    obtain ⟨s, h3, e4⟩ := ob_eq_some e
    simp only [puOk, Bool.and_eq_true] at hp
    obtain ⟨⟨p1, p2⟩, p3⟩ := hp
    rcases List.mem_cons.1 hi with hij | hi
    · subst hij
      obtain ⟨a1, a2, a3, a4, a5, a5g, a6, a7⟩ := put_back h3
      have hf := evPu_fr e4
      have hnot : ∀ k ∈ l, i ≠ k ∧ k ∉ ancOf pl i := by
        intro k hk
        have := List.all_eq_true.1 p1 k hk
        simp only [Bool.and_eq_true, bne_iff_ne, ne_eq, Bool.not_eq_true'] at this
        exact ⟨this.1, fun hm => by rw [hasKey_iff.2 hm] at this; exact absurd this.2 (by simp)⟩
      have hself : i ∉ ancOf pl i := fun hm => by rw [hasKey_iff.2 hm] at p2; cases p2
      have hqr : Fr (fun d => dsts ops (i :: l) d) r q := by
        refine ⟨a1.symm.trans hf.o, a2.symm.trans hf.ks, a3.symm.trans hf.n, a4.symm.trans hf.sz, a5.symm.trans hf.u, a5g.symm.trans hf.g, fun d hd => ?_⟩
        rw [← a6 d (fun e => hd ⟨i, by simp, o, h1, e⟩)]
        exact hf.t d (fun ⟨j, hj, hh⟩ => hd ⟨j, List.mem_cons_of_mem _ hj, hh⟩)
      have hlook : ∀ d ∈ o.looksAt ops, ¬ dsts ops (i :: l) d := by
        rintro d hd ⟨k, hk, ok, hok, hkd⟩
        rcases hP.look i o h1 k ok d hok hkd hd with hanc | ⟨hke, _⟩
        case inr => exact hP.eff k hke (hpur k hk)
        rcases List.mem_cons.1 hk with rfl | hk
        · exact hself hanc
        · exact (hnot k hk).2 hanc
      refine ⟨o, x, h1, ?_, fun d hd => ?_⟩
      · rw [← pv_fr hqr hlook]; exact h2
      · obtain ⟨b1, b2⟩ := a7 d hd
        refine ⟨?_, by rw [← hf.sz, a4]; exact b2⟩
        rw [← b1]
        refine (hf.t d ?_).symm
        rintro ⟨k, hk, ok, hok, hkd⟩
        exact (hnot k hk).1 (hP.dst i o h1 k ok d hok hkd hd).symm
    · exact evPu_valid hP e4 p3 (fun k hk => hpur k (List.mem_cons_of_mem _ hk)) i hi
theorem reB_valid : ∀ {l : List Nat} {s : St}, reB P ops s l = true → ∀ i ∈ l, Valid P ops s i
  | [], _, _, i, hi => by cases hi
  | j :: l, s, h, i, hi => by
    simp only [reB, Bool.and_eq_true] at h
    rcases List.mem_cons.1 hi with hij | hi
    · subst hij
      have h := h.1
      split at h
      · cases h
      · rename_i o ho
        split at h
        · cases h
        · rename_i x hx
          refine ⟨o, x, ho, hx, fun d hd => ?_⟩
          rw [hd] at h
          simp only [Bool.and_eq_true, decide_eq_true_eq] at h
          exact h
    · exact reB_valid h.2 i hi
def unl (ops : Array Oper) (done : List Nat) (listed : Array Bool) (d : Nat) : Prop := ∃ i ∈ done, ∃ o, ops[i]? = some o ∧ o.dst = some d ∧ listed.getD i true = false
def cnt (n : Nat) (listed : Array Bool) : Nat := ((List.range n).filter fun i => !listed.getD i true).length
theorem filter_lt {p p' : Nat → Bool} {i : Nat} (h : ∀ x, p' x = true → p x = true) (h1 : p i = true) (h2 : p' i = false) : ∀ (l : List Nat), i ∈ l → (l.filter p').length < (l.filter p).length
  | [], hi => by cases hi
  | j :: l, hi => by
    have le : ∀ (l : List Nat), (l.filter p').length ≤ (l.filter p).length := by
      intro l
      induction l with
      | nil => simp
      | cons a l ih =>
        simp only [List.filter_cons]
        cases hp : p' a with
        | true => rw [if_pos rfl, h a hp, if_pos rfl]; simpa using ih
        | false =>
          rw [if_neg (by simp)]
          split
          · simp; omega
          · exact ih
    simp only [List.filter_cons]
    rcases List.mem_cons.1 hi with hij | hi
    · subst hij
      rw [h2, h1, if_neg (by simp), if_pos rfl]
      have := le l
      simp; omega
    · have ih := filter_lt h h1 h2 l hi
      cases hp : p' j with
      | true => rw [if_pos rfl, h j hp, if_pos rfl]; simpa using ih
      | false =>
        rw [if_neg (by simp)]
        split
        · simp; omega
        · exact ih
theorem ahead_listed {listed : Array Bool} (hr : Region.ready .any ops listed = []) (hs : listed.size = ops.size) : ∀ {l b : List Nat}, ahead ops b l = true → (∀ k ∈ b, listed.getD k false = true) → ∀ k ∈ l, listed.getD k true = true
  | [], b, _, _, k, hk => by cases hk
  | i :: l, b, ha, hb, k, hk => by
    simp only [ahead, Bool.and_eq_true] at ha
    obtain ⟨h1, h2⟩ := ha
    split at h1
    · cases h1
    · rename_i o ho
      have hi : i < listed.size := by rw [hs]; exact (Array.getElem?_eq_some_iff.1 ho).1
      have hli : listed.getD i true = true := by
        cases hc : listed.getD i true with
        | true => rfl
        | false =>
          have : i ∈ Region.ready .any ops listed := mem_ready.2 ⟨hc, o, ho, fun e he hbe => hb _ (by
            have := List.all_eq_true.1 h1 e (by simpa using he)
            rw [show bindsA e = true from hbe] at this
            exact hasKey_iff.1 (by simpa using this))⟩
          rw [hr] at this; cases this
      rcases List.mem_cons.1 hk with rfl | hk
      · exact hli
      · refine ahead_listed hr hs h2 ?_ k hk
        intro j hj
        rcases List.mem_cons.1 hj with rfl | hj
        · simpa [Array.getD, hi] using hli
        · exact hb j hj
def Step1 (C : Cfg) (o : Oper) (b : Option Bool) (st s : St) : Prop := ∀ (U : Nat → Prop) (st' : St), Fr U st st' → (∀ x ∈ o.op.operands, Off U x) → ∃ s', Fr (fun i => U i ∧ o.dst ≠ some i) s s' ∧
  ∀ (X : Nat → Prop) (β0 : Places) (w0 : World) (S0 : Stable) (a : Act) (w : World), SimE C.P X β0 w0 S0 st' a w →
    b ≠ none ∧ (b = some true → ∀ Q, o.wp C.P a w (fun a' w' => SimE C.P X β0 w0 S0 s' a' w') Q) ∧ (b = some false → SimE C.P X β0 w0 S0 s' (a.put o.dst undef) w)
def alts : DT → List (Nat × List Nat × List Nat × DT)
  | .done => []
  | .alt a re pu next other => (a, re, pu, next) :: alts other
theorem alts_heads : ∀ {l : DT} {i : Nat}, i ∈ heads l → ∃ re pu next, (i, re, pu, next) ∈ alts l
  | .done, i, h => by cases h
  | .alt a re pu next other, i, h => by
    rcases List.mem_cons.1 h with rfl | h
    · exact ⟨re, pu, next, List.mem_cons_self ..⟩
    · obtain ⟨re', pu', next', h'⟩ := alts_heads h
      exact ⟨re', pu', next', List.mem_cons_of_mem _ h'⟩
theorem alts_pus : ∀ {l : DT} {a : Nat} {re pu : List Nat} {next : DT}, (a, re, pu, next) ∈ alts l → ∀ j, j ∈ pu ∨ j ∈ pus next → j ∈ pus l
  | .alt a re pu next other, _, _, _, _, h, j, hj => by
    rcases List.mem_cons.1 h with h | h
    · cases h
      simp only [pus, List.mem_append]
      rcases hj with hj | hj
      · exact .inl hj
      · exact .inr (.inl hj)
    · simp only [pus, List.mem_append]
      exact .inr (.inr (alts_pus h j hj))
theorem ssOk_alts {pl : Plan} : ∀ {l : DT} {U : Option (List Nat)} {done : List Nat} {V : List Nat}, ssOk pl U done l = true → (∀ u, U = some u → V = u) → (U = none → V = part l) → ∀ {a : Nat} {re pu : List Nat} {next : DT}, (a, re, pu, next) ∈ alts l →
    ((∀ i ∈ done, i ∈ ancOf pl a ∨ i ∈ re) ∧ puOk pl pu = true ∧ a ∉ pu ++ part next ∧ a ∉ done) ∧ ((∀ i ∈ V, i ∈ a :: (pu ++ part next)) ∧ ∀ i ∈ a :: (pu ++ part next), i ∈ V) ∧ ssOk pl none (done ++ pu) next = true
  | .alt a re pu next other, U, done, V, h, hU, hU0, a', re', pu', next', hm => by
    simp only [ssOk, Bool.and_eq_true] at h
    obtain ⟨c1, c2, c3, ⟨c4, c5⟩, c6, c7⟩ := h
    rcases List.mem_cons.1 hm with hm | hm
    · cases hm
      refine ⟨⟨fun i hi => ?_, c3, fun hm => (by rw [hasKey_iff.2 hm] at c4; cases c4), fun hm => (by rw [hasKey_iff.2 hm] at c5; cases c5)⟩, ?_, c6⟩
      · have := List.all_eq_true.1 c1 i hi
        simp only [Bool.or_eq_true] at this
        exact this.imp hasKey_iff.1 hasKey_iff.1
      · cases U with
        | none =>
          have := hU0 rfl
          subst this
          exact ⟨fun i hi => hi, fun i hi => hi⟩
        | some u =>
          have := hU u rfl
          subst this
          simp only [nodeOk, Bool.and_eq_true] at c2
          exact ⟨fun i hi => hasKey_iff.1 (List.all_eq_true.1 c2.1 i hi), fun i hi => hasKey_iff.1 (List.all_eq_true.1 c2.2 i hi)⟩
    · refine ssOk_alts c7 (V := V) (fun u hu => ?_) (fun h => by cases h) hm
      cases hu
      cases U with
      | none => exact hU0 rfl
      | some u => exact hU u rfl
theorem ssOk_blocked {pl : Plan} {l : DT} {done : List Nat} (h : ssOk pl none done l = true) : ∀ i ∈ part l, i ∈ heads l ∨ ∃ k ∈ part l, k ∈ ancOf pl i := by
  cases l with
  | done => intro i hi; cases hi
  | alt a re pu next other =>
    intro i hi
    simp only [ssOk, Bool.and_eq_true, nodeOk] at h
    have := List.all_eq_true.1 h.2.1 i hi
    simp only [Bool.or_eq_true] at this
    refine this.imp hasKey_iff.1 fun h => ?_
    obtain ⟨k, hk, hh⟩ := List.any_eq_true.1 h
    exact ⟨k, hk, hasKey_iff.1 hh⟩
def Rest (C : Cfg) (ops : Array Oper) (l : DT) (st s : St) : Prop :=
  ∀ (pl : Plan) (done : List Nat) (X : Nat → Prop) (β0 : Places) (w0 : World) (S0 : Stable) (Q : Exit → Act → World → Prop), PlanH ops pl → ssOk pl none done l = true → (∀ a w, SimE C.P X β0 w0 S0 s a w → Q .normal a w) →
    ∀ (fuel : Nat) (listed : Array Bool) (a : Act) (w : World), listed.size = ops.size → cnt ops.size listed ≤ fuel →
      (∀ k ∈ done, k ∈ pl.p0 ++ pus pl.ss) → (∀ j ∈ pus l, j ∈ pl.p0 ++ pus pl.ss) → (∃ q', Fr (unl ops done listed) st q' ∧ SimE C.P X β0 w0 S0 q' a w) → (∀ i, listed.getD i false = true → ∀ k ∈ ancOf pl i, listed.getD k false = true) →
      (∀ i ∈ part l, listed.getD i true = false) → (∀ i ∈ done, listed.getD i true = false → Valid C.P ops st i) → (∀ i, i < ops.size → listed.getD i true = true ∨ i ∈ done ∨ i ∈ part l) →
      wpAny C.P .any ops Q fuel listed a w
inductive DrOk (C : Cfg) (ops : Array Oper) : DT → St → St → Prop where
  | done (st : St) : DrOk C ops .done st st
  | one {a : Nat} {re pu : List Nat} {next : DT} {o : Oper} {st s1 s2 s : St} (ho : ops[a]? = some o) (h1 : Step1 C o (gval ops st o) st s1) (h2 : evPu C.P ops pu s1 = some s2) (h3 : reB C.P ops s2 re = true)
      (h4 : DrOk C ops next s2 s) : DrOk C ops (.alt a re pu next .done) st s
  | alt {a : Nat} {re pu : List Nat} {next other : DT} {o : Oper} {st s1 s2 s r : St} (ho : ops[a]? = some o) (h1 : Step1 C o (gval ops st o) st s1) (h2 : evPu C.P ops pu s1 = some s2) (h3 : reB C.P ops s2 re = true)
      (h4 : DrOk C ops next s2 s) (h5 : DrOk C ops other st r) (h6 : SLe C.P s r) : DrOk C ops (.alt a re pu next other) st s
theorem DrOk.alts {C : Cfg} : ∀ {l : DT} {st s : St}, DrOk C ops l st s → ∀ {a : Nat} {re pu : List Nat} {next : DT}, (a, re, pu, next) ∈ Av.alts l →
    ∃ o s1 s2 s', ops[a]? = some o ∧ Step1 C o (gval ops st o) st s1 ∧ evPu C.P ops pu s1 = some s2 ∧ reB C.P ops s2 re = true ∧ DrOk C ops next s2 s' ∧ SLe C.P s s'
  | .alt a re pu next other, st, s, h, a', re', pu', next', hm => by
    cases h with
    | one ho h1 h2 h3 h4 =>
      rcases List.mem_cons.1 hm with hm | hm
      · cases hm; exact ⟨_, _, _, s, ho, h1, h2, h3, h4, .refl _⟩
      · cases hm
    | alt ho h1 h2 h3 h4 h5 h6 =>
      rcases List.mem_cons.1 hm with hm | hm
      · cases hm; exact ⟨_, _, _, s, ho, h1, h2, h3, h4, .refl _⟩
      · obtain ⟨o, s1, s2, s', g1, g2, g3, g4, g5, g6⟩ := DrOk.alts h5 hm
        exact ⟨o, s1, s2, s', g1, g2, g3, g4, g5, h6.trans g6⟩
theorem getD_tf {listed : Array Bool} {i : Nat} (h : i < listed.size) : listed.getD i true = listed.getD i false := by simp [Array.getD, h]
theorem getD_set {listed : Array Bool} {i j : Nat} (hi : i < listed.size) (d : Bool) : (listed.setIfInBounds i true).getD j d = if i = j then true else listed.getD j d := by
  by_cases h : i = j
  · subst h; simp [Array.getD, hi]
  · rw [if_neg h]; exact getD_set_ne d h
theorem wpAny_stage {C : Cfg} {l : DT} {st s : St}
    (hA : ∀ {a re pu next}, (a, re, pu, next) ∈ alts l → ∃ o s1 s2 s', ops[a]? = some o ∧ Step1 C o (gval ops st o) st s1 ∧ evPu C.P ops pu s1 = some s2 ∧ reB C.P ops s2 re = true ∧ Rest C ops next s2 s' ∧ SLe C.P s s')
    (hN : l = .done → s = st) : Rest C ops l st s := by
  intro pl done X β0 w0 S0 Q hP hss hQ fuel
  induction fuel with
  | zero =>
    intro listed a w hsz hc hdp hlp hq hanc hpart hval hall
    have hl : ∀ i, i < ops.size → listed.getD i true = true := by
      intro i hi
      cases h : listed.getD i true with
      | true => rfl
      | false =>
        have : i ∈ (List.range ops.size).filter fun i => !listed.getD i true := by simp only [List.mem_filter, List.mem_range, h]; exact ⟨hi, rfl⟩
        have := List.length_pos_of_mem this
        unfold cnt at hc
        omega
    have hln : l = .done := by
      cases l with
      | done => rfl
      | alt x re pu next other =>
        obtain ⟨o, _, _, _, ho, _⟩ := hA (List.mem_cons_self ..)
        have h1 := hl x (Array.getElem?_eq_some_iff.1 ho).1
        rw [hpart x (by simp [part])] at h1
        cases h1
    refine ⟨?_, ?_⟩
    · rw [List.eq_nil_iff_forall_not_mem]
      intro i hi
      obtain ⟨h1, o, ho, _⟩ := mem_ready.1 hi
      rw [hl i (Array.getElem?_eq_some_iff.1 ho).1] at h1
      cases h1
    · refine hQ a w ?_
      obtain ⟨q', h1, h2⟩ := hq
      rw [hN hln]
      refine SimE.le (h1.sle ?_) h2
      rintro x ⟨i, _, o, ho, _, hli⟩
      rw [hl i (Array.getElem?_eq_some_iff.1 ho).1] at hli
      cases hli
  | succ fuel ih =>
    intro listed a w hsz hc hdp hlp hq hanc hpart hval hall
    have lt : ∀ {i : Nat} {o : Oper}, ops[i]? = some o → i < listed.size := fun h => by rw [hsz]; exact (Array.getElem?_eq_some_iff.1 h).1
    refine ⟨fun hr => ?_, fun i hi => ?_⟩
    · have hl : ∀ i, i < ops.size → listed.getD i true = true := fun i hi => ahead_listed hr hsz hP.ah (fun k hk => by cases hk) i (hP.mem i hi)
      have hln : l = .done := by
        cases l with
        | done => rfl
        | alt x re pu next other =>
          obtain ⟨o, _, _, _, ho, _⟩ := hA (List.mem_cons_self ..)
          have h1 := hl x (Array.getElem?_eq_some_iff.1 ho).1
          rw [hpart x (by simp [part])] at h1
          cases h1
      refine hQ a w ?_
      obtain ⟨q', h1, h2⟩ := hq
      rw [hN hln]
      refine SimE.le (h1.sle ?_) h2
      rintro x ⟨i, _, o, ho, _, hli⟩
      rw [hl i (Array.getElem?_eq_some_iff.1 ho).1] at hli
      cases hli
    · obtain ⟨hi1, o, ho, hi2⟩ := mem_ready.1 hi
      have hil := lt ho
      have hiA : ∀ k ∈ ancOf pl i, listed.getD k false = true := by
        intro k hk
        obtain ⟨e, he, hb, hh⟩ := hP.trans i o ho k hk
        have hle := hi2 e he hb
        rcases hh with rfl | hh
        · exact hle
        · exact hanc e.on hle k hh
      have hself : i ∉ ancOf pl i := fun hm => by
        have h1 := hiA i hm
        have h2 := getD_tf hil
        rw [hi1, h1] at h2
        cases h2
      have hlook : ∀ d ∈ o.looksAt ops, ¬ unl ops done listed d := by
        rintro d hd ⟨k, hkm, ok, hok, hkd, hkl⟩
        rcases hP.look i o ho k ok d hok hkd hd with hka | ⟨hke, _⟩
        case inr => exact hP.eff k hke (hdp k hkm)
        have h1 := hiA k hka
        have h2 := getD_tf (lt hok)
        rw [hkl, h1] at h2
        cases h2
      have hset : ∀ j d, (listed.setIfInBounds i true).getD j d = if i = j then true else listed.getD j d := fun j d => getD_set hil d
      have hsz' : (listed.setIfInBounds i true).size = ops.size := by simpa using hsz
      have hcnt : cnt ops.size (listed.setIfInBounds i true) ≤ fuel := by
        have : cnt ops.size (listed.setIfInBounds i true) < cnt ops.size listed := by
          unfold cnt
          refine filter_lt (i := i) (fun x hx => ?_) (by rw [hi1]; rfl) (by rw [hset, if_pos rfl]; rfl) _ (List.mem_range.2 (by rw [← hsz]; exact hil))
          rw [hset] at hx
          split at hx
          · cases hx
          · exact hx
        omega
      have hanc' : ∀ j, (listed.setIfInBounds i true).getD j false = true → ∀ k ∈ ancOf pl j, (listed.setIfInBounds i true).getD k false = true := by
        intro j hj k hk
        rw [hset] at hj ⊢
        split
        · rfl
        · split at hj
          · rename_i hij; subst hij; exact hiA k hk
          · exact hanc j hj k hk
      obtain ⟨q', hfr, hsim⟩ := hq
      have hgv : gval ops q' o = gval ops st o := gval_fr hfr hlook
      have hunl : ∀ x, unl ops done listed x → ¬ unl ops done (listed.setIfInBounds i true) x → o.dst = some x := by
        rintro x ⟨k, hkm, ok, hok, hkd, hkl⟩ hn
        by_cases hik : i = k
        · subst hik; rw [ho] at hok; cases hok; exact hkd
        · exact absurd ⟨k, hkm, ok, hok, hkd, by rw [hset, if_neg hik]; exact hkl⟩ hn
      rcases hall i (by rw [← hsz]; exact hil) with h | hd | hp
      · rw [hi1] at h; cases h
      ·
        obtain ⟨o', x, ho', hpv, hslot⟩ := hval i hd hi1
        rw [ho] at ho'; cases ho'
        have hpv' : pv C.P ops q' o = some x := by rw [pv_fr hfr hlook]; exact hpv
        have hput : ∃ q2, put q' x o.dst = some q2 := by
          cases hd : o.dst with
          | none => exact ⟨q', rfl⟩
          | some d =>
            obtain ⟨_, h2⟩ := hslot d hd
            refine ⟨{ t := (d, x) :: q'.t, o := q'.o, ks := q'.ks, n := q'.n, sz := q'.sz, u := q'.u, g := q'.g }, ?_⟩
            simp only [put]
            rw [hfr.sz, decide_eq_true h2]; rfl
        obtain ⟨q2, hq2⟩ := hput
        have hfr2 : Fr (unl ops done (listed.setIfInBounds i true)) st q2 := by
          obtain ⟨a1, a2, a3, a4, a5, a5g, a6, a7⟩ := put_back hq2
          refine ⟨a1.trans hfr.o, a2.trans hfr.ks, a3.trans hfr.n, a4.trans hfr.sz, a5.trans hfr.u, a5g.trans hfr.g, fun y hy => ?_⟩
          by_cases hyd : o.dst = some y
          · rw [(a7 y hyd).1, (hslot y hyd).1]
          · rw [a6 y hyd]
            exact hfr.t y (fun hu => hyd (hunl y hu hy))
        have next : ∀ a' w', SimE C.P X β0 w0 S0 q2 a' w' → wpAny C.P .any ops Q fuel (listed.setIfInBounds i true) a' w' := fun a' w' hs =>
          ih (listed.setIfInBounds i true) a' w' hsz' hcnt hdp hlp ⟨q2, hfr2, hs⟩ hanc'
            (fun j hj => by
              rw [hset]
              have hne : i ≠ j := by
                rintro rfl
                rcases ssOk_blocked hss i hj with hh | ⟨k, hk, hka⟩
                · obtain ⟨re, pu, next, hm⟩ := alts_heads hh
                  exact (ssOk_alts hss (V := part l) (fun u hu => by cases hu) (fun _ => rfl) hm).1.2.2.2 hd
                · have h1 := hiA k hka
                  have h2 := hpart k hk
                  by_cases hkl : k < listed.size
                  · rw [getD_tf hkl, h1] at h2; cases h2
                  · have : listed.getD k false = false := by simp [Array.getD, hkl]
                    rw [this] at h1; cases h1
              rw [if_neg hne]; exact hpart j hj)
            (fun j hj hjl => by
              rw [hset] at hjl
              split at hjl
              · cases hjl
              · exact hval j hj hjl)
            (fun j hj => by
              rw [hset]
              split
              · exact .inl rfl
              · exact hall j hj)
        unfold wpOp
        rw [ho]
        simp only []
        obtain ⟨S, β, h⟩ := hsim
        unfold pv at hpv'
        cases hg : gval ops q' o with
        | none => rw [hg] at hpv'; cases hpv'
        | some b =>
          rw [gval_sound h hg]
          rw [hg] at hpv'
          cases b with
          | false =>
            cases hpv'
            rw [if_neg (by simp)]
            exact next _ _ ⟨S, β, h.put (RV.tup (cs := []) (vs := #[]) rfl (fun i hi => absurd hi (by simp))) trivial hq2⟩
          | true =>
            rw [if_pos rfl]
            have hl : lop C.P q' o = some q2 := by
              simp only [pv1] at hpv'
              unfold lop
              cases hle : leff C.P q' o.op with
              | none => rw [hle] at hpv'; cases hpv'
              | some eff =>
                rw [hle] at hpv'
                cases eff with
                | box cs ty => cases hpv'
                | val y => cases hpv'; exact hq2
            obtain ⟨v, w', β', hrun, hs⟩ := lop_sound h hl
            refine .inl ?_
            unfold Oper.wp
            rw [hrun, Oper.upon_value]
            exact next _ _ ⟨S, β', hs⟩
      ·
        have hih : i ∈ heads l := by
          rcases ssOk_blocked hss i hp with hh | ⟨k, hk, hka⟩
          · exact hh
          · exfalso
            have h1 := hiA k hka
            have h2 := hpart k hk
            by_cases hkl : k < listed.size
            · rw [getD_tf hkl, h1] at h2; cases h2
            · have : listed.getD k false = false := by simp [Array.getD, hkl]
              rw [this] at h1; cases h1
        obtain ⟨re, pu, next', hm⟩ := alts_heads hih
        obtain ⟨ox, s1, s2, s', hox, hstep, hpu, hre, hrest, hsle⟩ := hA hm
        obtain ⟨⟨c1, c3, c4', c4b⟩, ⟨hV1, hV2⟩, c5⟩ := ssOk_alts hss (V := part l) (fun u hu => by cases hu) (fun _ => rfl) hm
        · rw [ho] at hox; cases hox
          have unlisted : ∀ j ∈ pu ++ part next', (listed.setIfInBounds i true).getD j true = false := by
            intro j hj
            have hne : i ≠ j := fun e => c4' (e ▸ hj)
            rw [hset, if_neg hne]
            exact hpart j (hV2 j (List.mem_cons_of_mem _ hj))
          obtain ⟨s1', hf1, hs1⟩ := hstep (unl ops done listed) q' hfr (off_of hlook)
          obtain ⟨k0, k1, k2⟩ := hs1 X β0 w0 S0 a w hsim
          have hf2 := evPu_fr hpu
          have hfr2 : Fr (unl ops (done ++ pu) (listed.setIfInBounds i true)) s2 s1' := by
            refine ⟨hf1.o.trans hf2.o, hf1.ks.trans hf2.ks, hf1.n.trans hf2.n, hf1.sz.trans hf2.sz, hf1.u.trans hf2.u, hf1.g.trans hf2.g, fun y hy => ?_⟩
            rw [hf1.t y (fun ⟨hu, hd⟩ => hd (hunl y hu (fun ⟨j, hj, hh⟩ => hy ⟨j, List.mem_append_left _ hj, hh⟩)))]
            refine hf2.t y ?_
            rintro ⟨j, hj, oj, hoj, hjd⟩
            exact hy ⟨j, List.mem_append_right _ hj, oj, hoj, hjd, unlisted j (List.mem_append_left _ hj)⟩
          have next : ∀ a' w', SimE C.P X β0 w0 S0 s1' a' w' → wpAny C.P .any ops Q fuel (listed.setIfInBounds i true) a' w' := fun a' w' hs =>
            hrest pl (done ++ pu) X β0 w0 S0 Q hP c5 (fun a w hs => hQ a w (hsle X β0 w0 S0 a w hs)) fuel (listed.setIfInBounds i true) a' w' hsz' hcnt (fun k hk => (List.mem_append.1 hk).elim (hdp k) (fun h => hlp k (alts_pus hm k (.inl h)))) (fun j hj => hlp j (alts_pus hm j (.inr hj))) ⟨s1', hfr2, hs⟩ hanc'
              (fun j hj => unlisted j (List.mem_append_right _ hj))
              (fun j hj hjl => by
                rcases List.mem_append.1 hj with hj | hj
                · rcases c1 j hj with h | h
                  · exfalso
                    have h1 := hiA j h
                    rw [hset] at hjl
                    split at hjl
                    · cases hjl
                    · by_cases hjs : j < listed.size
                      · rw [getD_tf hjs, h1] at hjl; cases hjl
                      · have : listed.getD j false = false := by simp [Array.getD, hjs]
                        rw [this] at h1; cases h1
                  · exact reB_valid hre j h
                · exact evPu_valid hP hpu c3 (fun k hk => hlp k (alts_pus hm k (.inl hk))) j hj)
              (fun j hj => by
                rw [hset]
                split
                · exact .inl rfl
                · rename_i hne
                  rcases hall j hj with h | h | h
                  · exact .inl h
                  · exact .inr (.inl (List.mem_append_left _ h))
                  · rcases List.mem_cons.1 (hV1 j h) with h | h
                    · exact absurd h.symm hne
                    · rcases List.mem_append.1 h with h | h
                      · exact .inr (.inl (List.mem_append_right _ h))
                      · exact .inr (.inr h))
          unfold wpOp
          rw [ho]
          simp only []
          obtain ⟨S, β, h⟩ := hsim
          cases hg : gval ops q' o with
          | none => rw [hgv] at hg; exact absurd hg k0
          | some b =>
            rw [gval_sound h hg]
            rw [hgv] at hg
            cases b with
            | true => rw [if_pos rfl]; exact .inl (Oper.wp_mono next (k1 hg Q))
            | false => rw [if_neg (by simp)]; exact next _ _ (k2 hg)
theorem alts_size : ∀ {l : DT} {a : Nat} {re pu : List Nat} {next : DT}, (a, re, pu, next) ∈ alts l → SizeOf.sizeOf next < SizeOf.sizeOf l
  | .alt a re pu next other, _, _, _, _, h => by
    rcases List.mem_cons.1 h with h | h
    · cases h; simp; omega
    · have := alts_size h
      simp; omega
theorem DrOk.rest {C : Cfg} {l : DT} {st s : St} (h : DrOk C ops l st s) : Rest C ops l st s := by
  have key : ∀ (n : Nat) (l : DT) (st s : St), SizeOf.sizeOf l < n → DrOk C ops l st s → Rest C ops l st s := by
    intro n
    induction n with
    | zero => exact fun _ _ _ h => absurd h (Nat.not_lt_zero _)
    | succ n ih =>
      intro l st s hn h
      refine wpAny_stage (fun {a re pu next} hm => ?_) (fun e => ?_)
      · obtain ⟨o, s1, s2, s', g1, g2, g3, g4, g5, g6⟩ := h.alts hm
        exact ⟨o, s1, s2, s', g1, g2, g3, g4, ih _ _ _ (by have := alts_size hm; omega) g5, g6⟩
      · subst e; cases h; rfl
  exact key _ l st s (Nat.lt_succ_self _) h
theorem eqAt_iff {α : Type} {a b : List (Nat × α)} : ∀ {l : List Nat}, eqAt a b l → ∀ i ∈ l, lk i a = lk i b
  | [], _, i, hi => by cases hi
  | j :: l, h, i, hi => by
    rcases List.mem_cons.1 hi with rfl | hi
    · exact h.1
    · exact eqAt_iff h.2 i hi
theorem allIn_iff {l : List Nat} : ∀ {r : List Nat}, allIn l r = true → ∀ k ∈ r, k ∈ l
  | [], _, k, hk => by cases hk
  | j :: r, h, k, hk => by
    simp only [allIn, Bool.and_eq_true] at h
    rcases List.mem_cons.1 hk with rfl | hk
    · exact hasKey_iff.1 h.1
    · exact allIn_iff h.2 k hk
theorem keysA_lk {α : Type} {i : Nat} {x : α} : ∀ {l : List (Nat × α)}, lk i l = some x → i ∈ keysA l
  | [], h => by cases h
  | (j, y) :: l, h => by
    by_cases hij : i = j
    · subst hij; exact List.mem_cons_self ..
    · rw [lk_cons_ne _ _ hij] at h; exact List.mem_cons_of_mem _ (keysA_lk h)
theorem same_sle {s t r : St} (h : sameO s t = some r) : r = s ∧ SLe P s t := by
  unfold sameO at h
  split at h
  · rename_i hp
    cases h
    obtain ⟨⟨h1, h2⟩, h3, h4, h5, h6, h7, h8, h9⟩ := hp
    refine ⟨rfl, ?_⟩
    have ht : ∀ i tv, lk i s.t = some tv → lk i t.t = some tv := fun i tv hl => by rw [← eqAt_iff h1 i (keysA_lk hl)]; exact hl
    have ho : ∀ i ob, lk i s.o = some ob → lk i t.o = some ob := fun i ob hl => by rw [← eqAt_iff h2 i (keysA_lk hl)]; exact hl
    have ks : ∀ k, k ∈ t.ks → k ∈ s.ks := allIn_iff h5
    rintro X β0 w0 S0 a w ⟨S, β, h⟩
    refine ⟨S, β, h.kn, h.dfr, by rw [h7]; exact h.size, ?_, ?_, ?_, ?_, ?_, h.bnd, h.sub, h.new, h.below, by rw [h6]; exact h.n, h.fix, ?_, by rw [h9]; exact h.tk⟩
    · intro i tv hl
      obtain ⟨v, g1, g2, g3⟩ := h.tmps i tv (ht i tv hl)
      exact ⟨v, g1, g2, TV.ok_mono ks g3⟩
    · intro k ob hl
      obtain ⟨g1, g2, g3⟩ := h.objs k ob (ho k ob hl)
      exact ⟨g1, okO_mono ks g2, ks k g3⟩
    · exact fun k ob hl => h.own k ob (ho k ob hl)
    · exact fun k k' ob ob' hl hl' => h.inj k k' ob ob' (ho k ob hl) (ho k' ob' hl')
    · exact fun k ob hl => h.sep k ob (ho k ob hl)
    · intro b o hb
      rw [h8] at hb
      obtain ⟨a1, a2, a3, a4⟩ := h.gh b o hb
      exact ⟨a1, a2, fun k ob hl => a3 k ob (ho k ob hl), a4⟩
  · cases h
end
end Go.Av
end
section
set_option linter.unusedVariables false
set_option linter.unusedSimpArgs false
set_option linter.unusedSectionVars false
namespace Go.Av
section
variable [Known] {P : Program} {X : Nat → Prop} {β0 : Places} {w0 w w' : World} {S0 S S' : Stable} {st st' : St} {a : Act} {β β' : Places}
theorem efin2_sound {st : St} {fk : List Nat} {ik : List Nat} {rs rs' : List TV} {q : TV × Objs} (e : efin2 (Av.frz st fk) ik rs' = some q) (hle : LeL P (Av.frz st fk) rs rs') :
    ∃ (r0 : TV) (o0 : Objs), afinish2 P ik st (fun _ r o => r = r0 ∧ o = o0) (some rs) ∧
      ∃ σ : Nat → Nat, (∀ k k', k ∈ keysOf o0 → k' ∈ keysOf o0 → σ k = σ k' → k = k') ∧ (∀ k, k < 40 → σ k = k) ∧ (∀ k, 40 ≤ k → 40 ≤ σ k) ∧ q = (r0.ren σ, renO σ o0) := by
  unfold efin2 at e
  obtain ⟨κ, hκ, e⟩ := ob_eq_some e
  clear hκ
  obtain ⟨ν, hν, e⟩ := ob_eq_some e
  cases hν
  obtain ⟨outs, h1, e⟩ := ob_eq_some e
  obtain ⟨o0, h2, e⟩ := ob_eq_some e
  obtain ⟨_, h3, e⟩ := ob_eq_some e
  cases e
  obtain ⟨c1, c2⟩ := chk_and h3
  simp only [Bool.and_eq_true] at c2
  obtain ⟨c2, c3, c4⟩ := c2
  obtain ⟨g1, g2, g3, g4⟩ := pick_eq h1 h2
  refine ⟨afin rs', o0, ⟨fk, o0, rs', hle, ?_, ?_, fun n hn => ⟨rfl, rfl⟩⟩, canon (news κ), ?_, (canon_spec κ).1, (canon_spec κ).2.1, by rw [g2]⟩
  · rw [g1]; exact okBL_iff.1 c1
  · intro k ob hk
    refine ⟨by rw [g1]; exact allOk_lk c2 hk, fun h40 => ?_, ob, g3 k ob hk, .refl _⟩
    have hkk : k ∈ κ := by rw [← g1]; exact lk_keys hk
    have := List.all_eq_true.1 c4 k hkk
    simp only [Bool.or_eq_true, decide_eq_true_eq] at this
    rcases this with h | h
    · omega
    · exact hasKey_iff.1 h
  · rw [g1]; exact (canon_spec κ).2.2
theorem efin1_sound {st : St} {x : Bool} {ik : List Nat} {rs : List TV} {q : TV × Objs} (e : efin1 x st ik rs = some q) :
    ∃ (r0 : TV) (o0 : Objs), afinish2 P ik st (fun _ r o => r = r0 ∧ o = o0) (some rs) ∧
      ∃ σ : Nat → Nat, (∀ k k', k ∈ keysOf o0 → k' ∈ keysOf o0 → σ k = σ k' → k = k') ∧ (∀ k, k < 40 → σ k = k) ∧ (∀ k, 40 ≤ k → 40 ≤ σ k) ∧ q = (r0.ren σ, renO σ o0) := by
  cases x with
  | true => exact efin2_sound (fk := []) e ⟨rfl, fun i hi hj => .same _⟩
  | false =>
    unfold efin1 at e
    simp only [] at e
    cases hg : st.g with
    | none =>
      rw [hg] at e
      obtain ⟨l1, l2⟩ := lowL_le (P := P) (st := st) (fk := ownKeysL rs) (cs := rs) (fun k hk => hk)
      exact efin2_sound e ⟨l1.symm, fun i hi hj => l2 i hi hj⟩
    | some n =>
      rw [hg] at e
      obtain ⟨l1, l2⟩ := lowZL_le (P := P) (st := Av.frz st (ownKeysL rs)) (cs := rs)
      exact efin2_sound e ⟨l1.symm, fun i hi hj => l2 i hi hj⟩
def m1 (C : Cfg) (g : FuncId) (ins : Objs) (args : List TV) (r : TV × Objs) : Prop := Plainly C.P g ∧ ACz (C.Z g) C.P g ins args fun _ _ r' o' => r' = r.1 ∧ o' = r.2
theorem m1_of {C : Cfg} {g : FuncId} {ins : Objs} {args : List TV} {r : TV × Objs} (hz : C.Z g = false) (h : Plainly C.P g ∧ AC C.P g ins args fun _ _ r' o' => r' = r.1 ∧ o' = r.2) : m1 C g ins args r := by
  unfold m1; rw [hz]; exact h
def m2 (C : Cfg) (g : FuncId) (c : Code) (st : St) (r : Exit × St) : Prop := aw C.P c (is r) st
def m3 (C : Cfg) (g : FuncId) (h : LHint) (c : Code) (st : St) (r : Exit × St) : Prop := awL C.P c (is r) st
def m4 (C : Cfg) (ops : Array Oper) (l : List Nat) (st s : St) : Prop := ∀ (X : Nat → Prop) (β0 : Places) (w0 : World) (S0 : Stable) (a : Act) (w : World) (Q : Exit → Act → World → Prop),
  SimE C.P X β0 w0 S0 st a w → (∀ a w, SimE C.P X β0 w0 S0 s a w → Q .normal a w) → wpOps C.P ops Q l a w
noncomputable def ev1B (C : Cfg) (ev : FuncId → Objs → List TV → Option (TV × Objs)) (o : Oper) (b : Option Bool) (st : St) : Option St :=
  match b with
  | none => none
  | some false => put st (.tup []) o.dst
  | some true => match callOf o.op with
    | none => eop C.P st o o.op
    | some (f, args) => match extOf C (evc st f) with
      | some h => match h (args.map (evc st)) with
        | some x => put st x o.dst
        | none => none
      | none => match prep C st (evc st f) (args.map (evc st)) with
        | none => none
        | some p => (ev p.g p.ins p.args) >>= fun r => post st o.dst p r
theorem ev1B_fr {U : Nat → Prop} {q q' r : St} {C : Cfg} {ev : FuncId → Objs → List TV → Option (TV × Objs)} {o : Oper} {b : Option Bool} (h : Fr U q q') (hx : ∀ x ∈ o.op.operands, Off U x) (e : ev1B C ev o b q = some r) : Goes U o.dst r (ev1B C ev o b q') := by
  unfold ev1B at e ⊢
  cases b with
  | none => cases e
  | some t =>
    cases t with
    | false => exact put_fr h e
    | true =>
      simp only [] at e ⊢
      cases hc : callOf o.op with
      | none => rw [hc] at e; exact eop_fr h hx e
      | some p =>
        obtain ⟨f, args⟩ := p
        rw [hc] at e
        simp only [] at e ⊢
        have hop : ∃ c, o.op = .call c ∧ c.callee = .value f ∧ c.args.toList = args := by
          cases hop : o.op with
          | call c =>
            rw [hop] at hc
            simp only [callOf] at hc
            cases hcc : c.callee with
            | value f' => rw [hcc] at hc; cases hc; exact ⟨c, rfl, hcc, rfl⟩
            | _ => rw [hcc] at hc; cases hc
          | _ => rw [hop] at hc; cases hc
        obtain ⟨c, hop, hcc, hca⟩ := hop
        rw [hop] at hx
        have h1 : evc q' f = evc q f := evc_fr h (hx f (by simp [Op.operands, Call.operands, hcc]))
        have h2 : args.map (evc q') = args.map (evc q) := List.map_congr_left fun x hx' => evc_fr h (hx x (by simp only [Op.operands, Call.operands, hcc]; rw [← hca] at hx'; simp [Array.mem_toList_iff.1 hx']))
        rw [h1, h2, prep_fr h]
        cases hex : extOf C (evc q f) with
        | some hh =>
          rw [hex] at e
          simp only [] at e ⊢
          cases hhx : hh (args.map (evc q)) with
          | none => rw [hhx] at e; cases e
          | some x => rw [hhx] at e; exact put_fr h e
        | none =>
        rw [hex] at e
        simp only [] at e ⊢
        cases hp : prep C q (evc q f) (args.map (evc q)) with
        | none => rw [hp] at e; cases e
        | some p =>
          rw [hp] at e
          simp only [] at e ⊢
          obtain ⟨x, hx1, hx2⟩ := Option.bind_eq_some_iff.1 e
          obtain ⟨r', g1, g2⟩ := post_fr h hx2
          exact ⟨r', by rw [hx1]; exact g1, g2⟩
def ExtOk (P : Program) (g : FuncId) (h : List TV → Option TV) : Prop := ∀ (w : World) (S : Stable) (β : Places) (tvs : List TV) (vs : Array Value) (res : TV), h tvs = some res → tvs.length = vs.size →
  (∀ i (hi : i < tvs.length) (hj : i < vs.size), RV P w S β tvs[i] vs[i]) → ∃ v, (callFunc g vs).run P w = .ok (.value v) w ∧ RV P w S β res v ∧ ∀ p, okL p tvs → res.ok p
theorem ev1B_sound {C : Cfg} (hE : ∀ g h, C.E g = some h → ExtOk C.P g h) {ev : FuncId → Objs → List TV → Option (TV × Objs)} (ihF : ∀ g ins args r, ev g ins args = some r → m1 C g ins args r) {o : Oper} {b : Option Bool} {st s : St} (e : ev1B C ev o b st = some s)
    {X : Nat → Prop} {β0 : Places} {w0 : World} {S0 : Stable} {a : Act} {w : World} (hs : SimE C.P X β0 w0 S0 st a w) :
    b ≠ none ∧ (b = some true → ∀ Q, o.wp C.P a w (fun a' w' => SimE C.P X β0 w0 S0 s a' w') Q) ∧ (b = some false → SimE C.P X β0 w0 S0 s (a.put o.dst undef) w) := by
  unfold ev1B at e
  cases b with
  | none => cases e
  | some t =>
    cases t with
    | false =>
      refine ⟨by simp, (fun h => by cases h), fun _ => ?_⟩
      obtain ⟨S, β, h⟩ := hs
      exact ⟨S, β, h.put (RV.tup (cs := []) (vs := #[]) rfl (fun i hi => absurd hi (by simp))) trivial e⟩
    | true =>
      refine ⟨by simp, fun _ Q => ?_, (fun h => by cases h)⟩
      obtain ⟨S, β, h⟩ := hs
      by_cases hx : ∃ f args hh, callOf o.op = some (f, args) ∧ extOf C (evc st f) = some hh
      · obtain ⟨f, args, hh, hc1, hc2⟩ := hx
        have hop : ∃ c, o.op = .call c ∧ c.callee = .value f ∧ c.args.toList = args := by
          cases hop : o.op with
          | call c =>
            rw [hop] at hc1
            simp only [callOf] at hc1
            cases hcc : c.callee with
            | value f' => rw [hcc] at hc1; cases hc1; exact ⟨c, rfl, hcc, rfl⟩
            | _ => rw [hcc] at hc1; cases hc1
          | _ => rw [hop] at hc1; cases hc1
        obtain ⟨c, hop, hcc, rfl⟩ := hop
        simp only [hc1, hc2] at e
        cases hhx : hh (c.args.toList.map (evc st)) with
        | none => rw [hhx] at e; cases e
        | some x =>
          rw [hhx] at e
          simp only [] at e
          have hfr := (evc_sound h f).1
          cases hfv : evc st f with
          | clo g cap =>
            rw [hfv] at hc2 hfr
            cases cap with
            | cons _ _ => cases hc2
            | nil =>
              generalize hv : a.eval f = v at hfr
              cases hfr with
              | clo hcl hcr =>
                rename_i us
                have hus : us = #[] := by
                  have : us.size = 0 := by simpa using hcl.symm
                  exact Array.eq_empty_of_size_eq_zero this
                subst hus
                obtain ⟨v, hrun, hr, hok⟩ := hE g hh hc2 w S β _ (c.args.map a.eval) x hhx (by simp) (fun i hi hj => by
                  simp only [List.getElem_map, Array.getElem_map, Array.getElem_toList]
                  exact (evc_sound h _).1)
                have hexec : (execOp a.eval o).run C.P w = .ok (.value v) w := by
                  unfold execOp
                  rw [hop]
                  simp only [resolve, hcc, hv, Deferred.ofValue, Sem.run_bind, Sem.run_pure, Result.andThen_ok, invoke]
                  simpa using hrun
                unfold Oper.wp
                rw [hexec, Oper.upon_value]
                exact ⟨S, β, h.put hr (hok _ (okL_iff.2 fun y hy => by
                  obtain ⟨z, _, rfl⟩ := List.mem_map.1 hy
                  exact (evc_sound h z).2)) e⟩
          | _ => rw [hfv] at hc2; cases hc2
      have key : aop C.P (SLe C.P s) st o o.op := by
        simp only [] at e
        split at e
        · exact eop_aop e
        · rename_i f args hcall
          split at e
          · rename_i hh hc2; exact absurd ⟨f, args, hh, hcall, hc2⟩ hx
          split at e
          · cases e
          · rename_i p hp
            obtain ⟨q, hq, hpost⟩ := Option.bind_eq_some_iff.1 e
            obtain ⟨i1, i2⟩ := ihF p.g p.ins p.args q hq
            have := prep_call hp i1 i2 hpost
            cases hop : o.op with
            | call c =>
              rw [hop] at hcall
              simp only [callOf] at hcall
              cases hc : c.callee with
              | value f' =>
                rw [hc] at hcall
                cases hcall
                simp only [aop, hc]
                exact this
              | _ => rw [hc] at hcall; cases hcall
            | _ => rw [hop] at hcall; cases hcall
      exact Oper.wp_mono (fun a' w' ⟨s', h1, h2⟩ => h1 X β0 w0 S0 a' w' h2) (aop_sound h key Q)
theorem ev1B_step {C : Cfg} (hE : ∀ g h, C.E g = some h → ExtOk C.P g h) {ev : FuncId → Objs → List TV → Option (TV × Objs)} (ihF : ∀ g ins args r, ev g ins args = some r → m1 C g ins args r) {o : Oper} {b : Option Bool} {st s : St} (e : ev1B C ev o b st = some s) : Step1 C o b st s := by
  intro U st' hfr hx
  obtain ⟨s', h1, h2⟩ := ev1B_fr hfr hx e
  exact ⟨s', h2, fun X β0 w0 S0 a w hs => ev1B_sound hE ihF h1 hs⟩
theorem Step1.here {C : Cfg} {o : Oper} {b : Option Bool} {st s : St} (h : Step1 C o b st s) {X : Nat → Prop} {β0 : Places} {w0 : World} {S0 : Stable} {a : Act} {w : World} (hs : SimE C.P X β0 w0 S0 st a w) :
    b ≠ none ∧ (b = some true → ∀ Q, o.wp C.P a w (fun a' w' => SimE C.P X β0 w0 S0 s a' w') Q) ∧ (b = some false → SimE C.P X β0 w0 S0 s (a.put o.dst undef) w) := by
  obtain ⟨s', h1, h2⟩ := h (fun _ => False) st ⟨rfl, rfl, rfl, rfl, rfl, rfl, fun _ _ => rfl⟩ (fun _ _ _ _ h => h)
  obtain ⟨k0, k1, k2⟩ := h2 X β0 w0 S0 a w hs
  have hl : SLe C.P s s' := h1.sle (fun _ h => h.1)
  exact ⟨k0, fun hb Q => Oper.wp_mono (fun a' w' => hl X β0 w0 S0 a' w') (k1 hb Q), fun hb => hl X β0 w0 S0 _ _ (k2 hb)⟩
theorem leave_sound {h : LHint} {e : Exit} {s : St} {r : Exit × St} (hl : leave h e s = some r) : (e = r.1 ∧ ∃ live, prune s live = some r.2) ∧ ((∃ id, e = .exit id) ∨ e = .ret) := by
  cases e with
  | exit id => obtain ⟨s', h1, h2⟩ := ob_eq_some hl; cases h2; exact ⟨⟨rfl, _, h1⟩, .inl ⟨id, rfl⟩⟩
  | ret => obtain ⟨s', h1, h2⟩ := ob_eq_some hl; cases h2; exact ⟨⟨rfl, _, h1⟩, .inr rfl⟩
  | _ => cases hl
theorem ahead_lt {ops : Array Oper} : ∀ {l b : List Nat}, ahead ops b l = true → ∀ i ∈ l, i < ops.size
  | [], _, _, i, hi => by cases hi
  | j :: l, b, h, i, hi => by
    simp only [ahead, Bool.and_eq_true] at h
    rcases List.mem_cons.1 hi with rfl | hi
    · have h1 := h.1
      split at h1
      · cases h1
      · rename_i o ho; exact (Array.getElem?_eq_some_iff.1 ho).1
    · exact ahead_lt h.2 i hi
theorem aw_mono {c : Code} {Q Q' : Exit → St → Prop} (h : aw P c Q st) (hq : ∀ e s, Q e s → Q' e s) : aw P c Q' st := fun X β0 w0 S0 a w hs =>
  wp_mono (h X β0 w0 S0 a w hs) fun e a' w' ⟨s, h1, h2⟩ => ⟨s, hq e s h1, h2⟩
theorem aw_le {c : Code} {Q Q' : Exit → St → Prop} (h : aw P c Q st) (hq : ∀ e s, Q e s → ∃ s', Q' e s' ∧ SLe P s' s) : aw P c Q' st := fun X β0 w0 S0 a w hs =>
  wp_mono (h X β0 w0 S0 a w hs) fun e a' w' ⟨s, h1, h2⟩ => let ⟨s', g1, g2⟩ := hq e s h1; ⟨s', g1, g2 X β0 w0 S0 a' w' h2⟩
theorem initU_sle {u : Bool} {ins : Objs} {args : List TV} {sz n0 : Nat} (h40 : ∀ k, k ∈ keysOf ins → k < 40) : SLe P (initU u (init ins args sz 0)) (init ins args sz n0) := by
  have h0 : SLe P (init ins args sz 0) (init ins args sz n0) := SLe.objs rfl rfl (fun k ob hl => ⟨ob, hl, .refl _, fun _ h => h⟩) (Nat.zero_le _) rfl rfl
  cases u with
  | false => exact h0
  | true =>
    refine SLe.trans (s2 := init ins args sz 0) ?_ h0
    rintro X β0 w0 S0 a w ⟨S, β, h⟩
    have low : ∀ k, k < 40 → upK ins k = k ∨ (upK ins k = k + 50 ∧ ∃ A m es, lk k ins = some (.arr A m es)) := by
      intro k hk
      unfold upK
      rw [decide_eq_true hk, cond_true]
      split
      · rename_i A m es hh; exact .inr ⟨rfl, A, m, es, hh⟩
      · exact .inl rfl
      · exact .inl rfl
      · exact .inl rfl
    have high : ∀ k, ¬ k < 40 → upK ins k = k := by
      intro k hk
      unfold upK
      rw [decide_eq_false hk, cond_false]
    obtain ⟨β', h'⟩ := h.renSt' (σ := upK ins) (by
      intro k k' hk hk' e
      have g1 := h40 k hk
      have g2 := h40 k' hk'
      rcases low k g1 with q1 | ⟨q1, _⟩ <;> rcases low k' g2 with q2 | ⟨q2, _⟩ <;> rw [q1, q2] at e <;> omega) (by
      intro k hk
      by_cases hk40 : k < 40
      · rcases low k hk40 with q | ⟨q, _⟩
        · exact q
        · omega
      · exact high k hk40) (by
      intro k ob hl hk
      rcases low k hk with q | ⟨_, A, m, es, q⟩
      · exact .inl q
      · rw [show (init ins args sz 0).o = ins from rfl, q] at hl
        cases hl
        exact .inr rfl) (fun k hk => hk)
    exact ⟨S, β', h'⟩
theorem gZ_sle {z : Bool} {s1 s : St} (h : SLe P s1 s) (h0 : s.g = none) (h1 : s1.g = none) : SLe P (gZ z s1) (gZ z s) := by
  cases z with
  | false => exact h
  | true =>
    rintro X β0 w0 S0 a w ⟨S, β, k⟩
    have htk : TOk X w0 S0 w S (some (0, false)) := k.tk
    have hno : ∀ q b, ¬ S.t q b := fun q b hq => by
      by_cases hq0 : q = []
      · subst hq0; have := (htk.2.1 b hq).1; cases this
      · obtain ⟨⟨c, r, _, h⟩, _⟩ := htk.2.2.new q b ⟨hq0, hq⟩
        omega
    obtain ⟨S1, β1, k1⟩ := h X β0 w0 S0 a w ⟨S, β, k.kn, k.dfr, k.size, k.tmps, k.objs, k.own, k.inj, k.sep, k.bnd, k.sub, k.new, k.below, k.n, k.fix, k.gh, by
      rw [h0]; exact fun q b => ⟨fun h => absurd h (hno q b), fun h => absurd h (htk.1.2 q b)⟩⟩
    have hno1 : ∀ q b, ¬ S1.t q b := fun q b hq => by
      have := k1.tk
      rw [h1] at this
      exact htk.1.2 q b ((this q b).1 hq)
    exact ⟨S1, β1, k1.kn, k1.dfr, k1.size, k1.tmps, k1.objs, k1.own, k1.inj, k1.sep, k1.bnd, k1.sub, k1.new, k1.below, k1.n, k1.fix, k1.gh, htk.1, fun b hb => absurd hb (hno1 _ b),
      ⟨fun q b h => absurd h.2 (hno1 q b), fun q b b' h => absurd h.2 (hno1 q b), fun q q' b h => absurd h.2 (hno1 q b)⟩⟩
theorem ev_all (C : Cfg) (hE : ∀ g h, C.E g = some h → ExtOk C.P g h) (hO : ∀ g h ins args r, C.O g = some h → h ins args = some r → m1 C g ins args r) :
    (∀ g ins args r, evF C g ins args = some r → m1 C g ins args r) ∧ (∀ g c st r, evC C g c st = some r → m2 C g c st r) ∧ (∀ g h c st r, evL C g h c st = some r → m3 C g h c st r) ∧
      (∀ ops l st r, evDr C ops l st = some r → DrOk C ops l st r) ∧ (∀ o b st r, ev1 C o b st = some r → Step1 C o b st r) ∧ (∀ ops l st r, evOps C ops l st = some r → m4 C ops l st r) := by
  refine ev_ind C (m1 C) (m2 C) (m3 C) (DrOk C) (Step1 C) (m4 C) ?_ ?_ ?_ ?_ ?_ ?_
  · intro evC ihC g ins args r e
    unfold stF at e
    cases ho : C.O g with
    | some h => rw [ho] at e; exact hO g h ins args r ho e
    | none =>
      rw [ho] at e
      simp only [] at e
      split at e
      · rename_i fn hf
        split at e
        · rename_i c hb
          split at e
          · rename_i hc
            obtain ⟨q, hq, he⟩ := Option.bind_eq_some_iff.1 e
            refine ⟨⟨fn, hf, by rw [hb]; rfl, hc.2.1⟩, ?_⟩
            have main : ∀ s r1, efin1 (C.X g) s (keysOf ins) ((ares C.P s fn.results.toList).getD []) = some r1 → ares C.P s fn.results.toList = some ((ares C.P s fn.results.toList).getD []) → ((C.Z g = false → s.g = none) ∧ gfl s.g = false) →
                (∀ n0, aw C.P c (fun e s' => (e = .normal ∨ e = .ret) ∧ s' = s) (gZ (C.Z g) (init ins args fn.ntmps n0))) → ACz (C.Z g) C.P g ins args fun _ _ r' o' => r' = r1.1 ∧ o' = r1.2 := by
              intro s r1 h1 h2 hsg h3
              obtain ⟨r0, o0, g1, σ, g2, g3, g4, g5⟩ := efin1_sound (P := C.P) h1
              have := ACz.rename (P := C.P) (f := g) (ins := ins) (args := args) (r0 := r0) (o0 := o0) (σ := σ) (ACz.of hf hb hc.1 (fun k hk => of_decide_eq_true (List.all_eq_true.1 hc.2.2.1 k hk)) hc.2.2.2 fun n0 => ?_) g2 g3 g4
              · rw [g5]; exact this
              · refine aw_mono (h3 n0) ?_
                rintro e s' ⟨he, rfl⟩
                refine ⟨hsg, ?_⟩
                rcases he with rfl | rfl
                · show afinish _ _ _ _ _; unfold afinish; rw [h2]; exact g1
                · show afinish _ _ _ _ _; unfold afinish; rw [h2]; exact g1
            have hi : ∀ n0, aw C.P c (is q) (gZ (C.Z g) (init ins args fn.ntmps n0)) := fun n0 => aw_weaken (s1 := gZ (C.Z g) (initU (C.U g) (init ins args fn.ntmps 0))) (gZ_sle (initU_sle fun k hk => of_decide_eq_true (List.all_eq_true.1 hc.2.2.1 k hk)) rfl (by cases C.U g <;> rfl)) (ihC g c _ q hq)
            have last : ∀ s, efin0 C g (efin1 (C.X g) s (keysOf ins) ((ares C.P s fn.results.toList).getD [])) s.g = some r → ares C.P s fn.results.toList = some ((ares C.P s fn.results.toList).getD []) →
                (∀ n0, aw C.P c (fun e s' => (e = .normal ∨ e = .ret) ∧ s' = s) (gZ (C.Z g) (init ins args fn.ntmps n0))) → ACz (C.Z g) C.P g ins args fun _ _ r' o' => r' = r.1 ∧ o' = r.2 := by
              intro s h1 h2 h3
              cases hg : s.g with
              | none =>
                rw [hg] at h1
                exact main s r h1 h2 ⟨fun _ => hg, by rw [hg]; rfl⟩ h3
              | some na =>
                obtain ⟨n, a0⟩ := na
                rw [hg] at h1
                cases a0 with
                | true => cases h1
                | false =>
                have h1 : efinZ (C.Z g) (efin1 (C.X g) s (keysOf ins) ((ares C.P s fn.results.toList).getD [])) = some r := h1
                cases hz : C.Z g with
                | false => rw [hz] at h1; cases h1
                | true =>
                  rw [hz] at h1
                  cases hee : efin1 (C.X g) s (keysOf ins) ((ares C.P s fn.results.toList).getD []) with
                  | none => rw [hee] at h1; cases h1
                  | some r1 =>
                    rw [hee] at h1
                    obtain ⟨_, k1, k2⟩ := ob_eq_some h1
                    cases k2
                    have k1 := chk_eq_some k1
                    simp only [decide_eq_true_eq] at k1
                    have hm := main s r1 hee h2 ⟨fun h => (by rw [hz] at h; cases h), by rw [hg]; rfl⟩ h3
                    rw [hz] at hm
                    have hins := hc.2.2.2 hz
                    subst hins
                    exact ACz.canon hm k1
            obtain ⟨ex, s⟩ := q
            cases ex with
            | normal =>
              obtain ⟨rs, h1, h2⟩ := ob_eq_some he
              refine last s (by rw [h1]; exact h2) (by rw [h1]; rfl) fun n0 => aw_mono (hi n0) ?_
              rintro e s' ⟨rfl, rfl⟩
              exact ⟨.inl rfl, rfl⟩
            | ret =>
              obtain ⟨rs, h1, h2⟩ := ob_eq_some he
              refine last s (by rw [h1]; exact h2) (by rw [h1]; rfl) fun n0 => aw_mono (hi n0) ?_
              rintro e s' ⟨rfl, rfl⟩
              exact ⟨.inr rfl, rfl⟩
            | _ => cases he
          · cases e
        · cases e
      · cases e
  · intro evC evL evDr evOps ihC ihL ihD ihO g c st r e
    unfold stC at e
    cases c with
    | skip => cases e; exact aw_skip ⟨rfl, rfl⟩
    | region id ops draw =>
      cases draw with
      | true =>
        simp only [] at e
        split at e
        · rename_i hpl
          split at e
          · cases e
          · rename_i s0 hp0
            obtain ⟨s, h1, h2⟩ := Option.bind_eq_some_iff.1 e
            cases h2
            have h4 := (ihD ops _ s0 s h1).rest
            have hP := planH hpl.1
            intro X β0 w0 S0 a w hs
            refine wp_region_any hpl.2 ?_
            have hget : ∀ i d, i < ops.size → (Array.replicate ops.size false).getD i d = false := by
              intro i d hi
              simp [Array.getD, hi]
            have hf := evPu_fr hp0
            refine h4 (C.D g id) (C.D g id).p0 X β0 w0 S0 _ hP hP.ss (fun a' w' hs' => ⟨s, ⟨rfl, rfl⟩, hs'⟩) ops.size _ a _ (by simp) ?_ (fun k hk => List.mem_append_left _ hk) ?_ ⟨st, ⟨hf.o, hf.ks, hf.n, hf.sz, hf.u, hf.g, fun x hx => hf.t x ?_⟩, ?_⟩ ?_ ?_ ?_ ?_
            · unfold cnt
              exact Nat.le_trans (List.length_filter_le _ _) (by simp)
            · intro j hj
              exact List.mem_append_right _ hj
            · rintro ⟨i, hi, o, ho, hd⟩
              exact hx ⟨i, hi, o, ho, hd, hget i true (Array.getElem?_eq_some_iff.1 ho).1⟩
            · obtain ⟨S, β, h⟩ := hs
              exact ⟨S, β, h.drew⟩
            · intro i hi
              by_cases hl : i < ops.size
              · rw [hget i false hl] at hi; cases hi
              · simp [Array.getD, hl] at hi
            · intro i hi
              refine hget i true ?_
              have := hP.ah
              exact ahead_lt this i (List.mem_append_right _ hi)
            · intro i hi _
              exact evPu_valid hP hp0 hP.p0 (fun k hk => List.mem_append_left _ hk) i hi
            · intro i hi
              rcases List.mem_append.1 (hP.mem i hi) with h | h
              · exact .inr (.inl h)
              · exact .inr (.inr h)
        · cases e
      | false =>
        obtain ⟨s, h1, h2⟩ := Option.bind_eq_some_iff.1 e
        cases h2
        have h4 := ihO ops _ st s h1
        intro X β0 w0 S0 a w hs
        exact wp_region (h4 X β0 w0 S0 a w _ hs fun a' w' hs' => ⟨s, ⟨rfl, rfl⟩, hs'⟩)
    | seq x y =>
      obtain ⟨⟨ex, s⟩, h1, h2⟩ := Option.bind_eq_some_iff.1 e
      have g1 := ihC g x st _ h1
      refine aw_seq_k fun K hK => aw_mono g1 ?_
      rintro e s' ⟨rfl, rfl⟩
      cases e with
      | normal => exact hK _ (ihC g y _ _ h2)
      | _ => cases h2; exact ⟨rfl, rfl⟩
    | cond x a b =>
      simp only [] at e
      split at e
      · rename_i hc; exact aw_cond hc (fun _ => ihC g a st r e) (fun h => by cases h)
      · rename_i hc; exact aw_cond hc (fun h => by cases h) (fun _ => ihC g b st r e)
      · cases e
    | block id c =>
      obtain ⟨⟨ex, s⟩, h1, h2⟩ := Option.bind_eq_some_iff.1 e
      refine aw_block (aw_mono (ihC g c st _ h1) ?_)
      rintro e s' ⟨rfl, rfl⟩
      cases e with
      | exit j =>
        simp only [inBE] at h2
        simp only [inB]
        split
        · rename_i hj; rw [if_pos hj] at h2; cases h2; exact ⟨rfl, rfl⟩
        · rename_i hj; rw [if_neg hj] at h2; cases h2; exact ⟨rfl, rfl⟩
      | _ => cases h2; exact ⟨rfl, rfl⟩
    | loop c =>
      simp only [] at e
      split at e
      · rename_i s hh
        have g1 := ihL g _ c s r e
        intro X β0 w0 S0 a w hs
        exact aw_of_awL g1 X β0 w0 S0 a w (headSt_sound hh hs)
      · cases e
    | exit id => cases e; exact aw_exit ⟨rfl, rfl⟩
    | ret => cases e; exact aw_ret ⟨rfl, rfl⟩
    | _ => cases e
  · intro evC evL ihC ihL g h c st r e
    unfold stL at e
    obtain ⟨⟨ex, s⟩, h1, h2⟩ := Option.bind_eq_some_iff.1 e
    have g1 := ihC g c st _ h1
    refine awL_round ?_
    cases ex with
    | normal =>
      simp only [] at h2
      split at h2
      · rename_i s1 hh
        refine aw_le g1 ?_
        rintro e s' ⟨rfl, rfl⟩
        exact ⟨s1, ihL g h c s1 r h2, fun X β0 w0 S0 a w hs => headSt_sound hh hs⟩
      · cases h2
    | exit id =>
      obtain ⟨⟨l1, live, l2⟩, l3⟩ := leave_sound h2
      refine aw_le g1 ?_
      rintro e s' ⟨rfl, rfl⟩
      exact ⟨r.2, ⟨l1, rfl⟩, fun X β0 w0 S0 a w hs => prune_sound l2 hs⟩
    | ret =>
      obtain ⟨⟨l1, live, l2⟩, l3⟩ := leave_sound h2
      refine aw_le g1 ?_
      rintro e s' ⟨rfl, rfl⟩
      exact ⟨r.2, ⟨l1, rfl⟩, fun X β0 w0 S0 a w hs => prune_sound l2 hs⟩
    | _ => cases h2
  · intro evDr ev1 ihD ih1 ops l st s e
    unfold stD at e
    cases l with
    | done => cases e; exact .done _
    | alt a re pu next other =>
      simp only [] at e
      split at e
      · cases e
      · rename_i o ho
        obtain ⟨s1, h1, h2⟩ := Option.bind_eq_some_iff.1 e
        split at h2
        · cases h2
        · rename_i s2 hs2
          split at h2
          · rename_i hre
            obtain ⟨s3, h3, h4⟩ := Option.bind_eq_some_iff.1 h2
            split at h4
            · cases h4
              exact .one ho (ih1 o _ st s1 h1) hs2 hre (ihD ops next s2 s h3)
            · obtain ⟨s4, h5, h6⟩ := Option.bind_eq_some_iff.1 h4
              obtain ⟨rfl, hle⟩ := same_sle (P := C.P) h6
              exact .alt ho (ih1 o _ st s1 h1) hs2 hre (ihD ops next s2 s h3) (ihD ops _ st s4 h5) hle
          · cases h2
  · intro evF ihF o b st s e
    exact ev1B_step hE ihF (show ev1B C evF o b st = some s from e)
  · intro ev1 evOps ih1 ihO ops l st s e
    unfold stO at e
    cases l with
    | nil => cases e; intro X β0 w0 S0 a w Q hs hQ; exact hQ a w hs
    | cons i l =>
      simp only [] at e
      split at e
      · cases e
      · rename_i o ho
        obtain ⟨s1, h1, h2⟩ := Option.bind_eq_some_iff.1 e
        have g1 := ih1 o _ st s1 h1
        have g2 := ihO ops l s1 s h2
        intro X β0 w0 S0 a w Q hs hQ
        rw [wpOps_cons]
        obtain ⟨k0, k1, k2⟩ := g1.here hs
        obtain ⟨S, β, hsim⟩ := hs
        unfold wpOp
        rw [ho]
        simp only []
        cases hg : gval ops st o with
        | none => exact absurd hg k0
        | some b =>
          rw [gval_sound hsim hg]
          rw [hg] at k1 k2
          cases b with
          | true => rw [if_pos rfl]; exact .inl (Oper.wp_mono (fun a' w' hs' => g2 X β0 w0 S0 a' w' Q hs' hQ) (k1 rfl Q))
          | false => rw [if_neg (by simp)]; exact g2 X β0 w0 S0 _ _ Q (k2 rfl) hQ
theorem evF_sound {C : Cfg} (hE : ∀ g h, C.E g = some h → ExtOk C.P g h) (hO : ∀ g h ins args r, C.O g = some h → h ins args = some r → m1 C g ins args r) {g : FuncId} {ins : Objs} {args : List TV} {r : TV × Objs} (e : evF C g ins args = some r) :
    Plainly C.P g ∧ ACz (C.Z g) C.P g ins args fun _ _ r' o' => r' = r.1 ∧ o' = r.2 := (ev_all C hE hO).1 g ins args r e
end
end Go.Av
end
section
set_option linter.unusedVariables false
namespace Go.Av
structure Tg {α : Type} (a : α) : Type
section
variable {C : Cfg} {g : FuncId} {st : St}
def br {α : Type} (b : Bool) (x y : Option α) (_ : Tg (x, y)) : Option α := match b with
  | true => x
  | false => y
@[push_cast] theorem br_true {α : Type} (x y : Option α) (t : Tg (x, y)) : br true x y t = x := rfl
@[push_cast] theorem br_false {α : Type} (x y : Option α) (t : Tg (x, y)) : br false x y t = y := rfl
@[push_cast] theorem br_not {α : Type} (b : Bool) (x y : Option α) (t : Tg (x, y)) : br (!b) x y t = br b y x ⟨⟩ := by cases b <;> rfl
theorem br_split {α : Type} {b : Bool} {x y r : Option α} {t : Tg (x, y)} (h1 : b = true → x = r) (h2 : b = false → y = r) : br b x y t = r := by
  cases b
  · exact h2 rfl
  · exact h1 rfl
def normC (x : Option St) : Option (Exit × St) := match x with
  | some s => some (.normal, s)
  | none => none
noncomputable def evB (C : Cfg) (g : FuncId) (c : Code) (_ : Tg c) (st : St) : Option (Exit × St) := evC C g c st
noncomputable def evM (C : Cfg) (g : FuncId) (h : LHint) (c : Code) (_ : Tg c) (st : St) : Option (Exit × St) := evL C g h c st
def condC (b : Option Bool) (x y : Option (Exit × St)) (_ : Tg (x, y)) : Option (Exit × St) := match b with
  | some true => x
  | some false => y
  | none => none
noncomputable def thenS (C : Cfg) (g : FuncId) (y : Code) (_ : Tg y) : Option (Exit × St) → Option (Exit × St)
  | some (.normal, s) => evB C g y ⟨⟩ s
  | some (.exit id, s) => some (.exit id, s)
  | some (.ret, s) => some (.ret, s)
  | some (.goto l, s) => some (.goto l, s)
  | some (.panic c, s) => some (.panic c, s)
  | some (.outgrown, s) => some (.outgrown, s)
  | none => none
def evPost (st : St) (dst : Option Nat) (p : Prep) : Option (TV × Objs) → Option St
  | some r => post st dst p r
  | none => none
noncomputable def evPrep (C : Cfg) (st : St) (dst : Option Nat) : Option Prep → Option St
  | some p => evPost st dst p (evF C p.g p.ins p.args)
  | none => none
noncomputable def loopS (C : Cfg) (g : FuncId) (h : LHint) (c : Code) (_ : Tg c) : Option St → Option (Exit × St)
  | some s => evM C g h c ⟨⟩ s
  | none => none
noncomputable def roundC (C : Cfg) (g : FuncId) (h : LHint) (c : Code) (_ : Tg c) : Option (Exit × St) → Option (Exit × St)
  | some (.normal, s) => loopS C g h c ⟨⟩ (headSt h s)
  | some (.exit id, s) => leave h (.exit id) s
  | some (.ret, s) => leave h .ret s
  | some (.goto _, _) => none
  | some (.panic _, _) => none
  | some (.outgrown, _) => none
  | none => none
def effVal : Option Eff → Option TV
  | some (.val x) => some x
  | some (.box _ _) => none
  | none => none
def pv2 (P : Program) (st : St) (op : Op) : Option TV := effVal (leff P st op)
noncomputable def evR (C : Cfg) (ops : Array Oper) (_ : Tg ops) : (l : List Oper) → Tg l → St → Option St
  | [], _, st => some st
  | o :: l, _, st => match ev1 C o (gval ops st o) st with
    | some s => evR C ops ⟨⟩ l ⟨⟩ s
    | none => none
noncomputable def evK (C : Cfg) (ops : Array Oper) (t : Tg ops) (l : List Oper) (_ : Tg l) : Option St → Option St
  | some s => evR C ops t l ⟨⟩ s
  | none => none
noncomputable def eopD (P : Program) (st : St) (dst : Option Nat) (op : Op) : Option St := eop P st { dst := dst, op := op, type := 0, pos := "", after := #[], guard := none } op
def evExt (st : St) (dst : Option Nat) : Option TV → Option St
  | some x => put st x dst
  | none => none
noncomputable def evExtP (C : Cfg) (st : St) (dst : Option Nat) (f : TV) (args : List TV) : Option (List TV → Option TV) → Option St
  | some h => evExt st dst (h args)
  | none => evPrep C st dst (prep C st f args)
noncomputable def evOpD (C : Cfg) (st : St) (dst : Option Nat) (op : Op) : Option (Operand × List Operand) → Option St
  | none => eopD C.P st dst op
  | some (f, args) => evExtP C st dst (evc st f) (args.map (evc st)) (extOf C (evc st f))
noncomputable def evY (C : Cfg) (st : St) (dst : Option Nat) (op : Op) : Option St := ev1 C { dst := dst, op := op, type := 0, pos := "", after := #[], guard := none } (some true) st
noncomputable def evX (C : Cfg) (st : St) (dst : Option Nat) (op : Op) (b : Option Bool) : Option St := ev1 C { dst := dst, op := op, type := 0, pos := "", after := #[], guard := none } b st
theorem lop_dst (P : Program) (o o' : Oper) (h : o.op = o'.op) (h2 : o.dst = o'.dst) : lop P st o = lop P st o' := by unfold lop; rw [h, h2]
theorem eop_dst (P : Program) (o o' : Oper) (op : Op) (h : o.op = o'.op) (h2 : o.dst = o'.dst) : eop P st o op = eop P st o' op := by
  have hl := lop_dst (st := st) P o o' h h2
  cases op with
  | call c =>
    simp only [eop, hl, h2]
  | slice t x lo hi mx =>
    cases mx with
    | none =>
      simp only [eop]
      cases evc st x with
      | own k =>
        have h3 : ∀ lo hi, eslice2 P st o t lo hi k = eslice2 P st o' t lo hi k := by intro lo hi; simp only [eslice2, h2]
        simp only [eslice, h3]
        split
        · rename_i y
          have h4 : eslice1 P st o t y k = eslice1 P st o' t y k := by funext z; cases z <;> simp only [eslice1, h2, h3]
          rw [h4]
        · rfl
      | d t => simp only [eslice, hl]
      | _ => rfl
    | some m => simp only [eop, h2]
  | _ => simp only [eop, hl, h2]
theorem ev1_dst (o o' : Oper) (b : Option Bool) (h : o.op = o'.op) (h2 : o.dst = o'.dst) : ev1 C o b st = ev1 C o' b st := by
  rw [ev1_def C o, ev1_def C o', stE.eq_def, stE.eq_def, h, h2]
  cases b with
  | none => rfl
  | some t =>
    cases t with
    | false => rfl
    | true =>
      simp only []
      cases callOf o'.op with
      | none => exact eop_dst C.P o o' _ h h2
      | some p => rfl
theorem evR_eq (ops : Array Oper) (t : Tg ops) : ∀ (n i : Nat) (st : St), n = ops.size - i → i ≤ ops.size → evOps C ops (List.range' i n) st = evR C ops t (ops.toList.drop i) ⟨⟩ st := by
  intro n
  induction n with
  | zero =>
    intro i st h hi
    have : ops.toList.drop i = [] := List.drop_eq_nil_of_le (by simp; omega)
    rw [this, List.range'_zero, evOps_def, stO, evR]
  | succ n ih =>
    intro i st h hi
    have hlt : i < ops.size := by omega
    rw [List.range'_succ, evOps_def, stO]
    have hd : ops.toList.drop i = ops[i] :: ops.toList.drop (i + 1) := by
      rw [List.drop_eq_getElem_cons (by simpa using hlt)]
      simp
    rw [hd, evR, Array.getElem?_eq_getElem hlt]
    simp only []
    cases ev1 C ops[i] (gval ops st ops[i]) st with
    | none => rfl
    | some s => exact ih (i + 1) s (by omega) (by omega)
@[congr] theorem normC_congr {x y : Option St} (h : x = y) : normC x = normC y := by rw [h]
@[congr] theorem inBE_congr {id : Nat} {x y : Option (Exit × St)} (h : x = y) : inBE id x = inBE id y := by rw [h]
@[congr] theorem evPost_congr {s : St} {d : Option Nat} {p : Prep} {o o' : Option (TV × Objs)} (h : o = o') : evPost s d p o = evPost s d p o' := by rw [h]
@[congr] theorem evPrep_congr {s : St} {d : Option Nat} {o o' : Option Prep} (h : o = o') : evPrep C s d o = evPrep C s d o' := by rw [h]
@[congr] theorem evX_congr {s : St} {d : Option Nat} {op : Op} {x y : Option Bool} (h : x = y) : evX C s d op x = evX C s d op y := by rw [h]
@[congr] theorem efin_congr {rv : List ResultVar} {ins : Objs} {x y : Option (Exit × St)} (h : x = y) : efin C g rv ins x = efin C g rv ins y := by rw [h]
theorem evF_code {ins : Objs} {args : List TV} {fn : Func} {c : Code} (ho : C.O g = none) (hf : C.P.funcs[g]? = some fn) (hb : fn.body = some c) (hz : args.length ≤ fn.ntmps)
    (hn : (fn.name == "runtime.NumGoroutine") = false) (hi : (keysOf ins).all (fun k => decide (k < 40)) = true) (hu : C.U g = false := by rfl) (hzz : C.Z g = false := by rfl) :
    evF C g ins args = efin C g fn.results.toList ins (evB C g c ⟨⟩ (init ins args fn.ntmps 0)) := by
  rw [evF_def, stF]
  simp only [ho, hf, hb, hz, hn, hi, hu, hzz, gZ, initU, Bool.false_eq_true, false_implies, and_self, if_true, evB]
  cases evC C g c (init ins args fn.ntmps 0) with
  | none => rfl
  | some r => rfl
theorem evF_codeZ {args : List TV} {fn : Func} {c : Code} (ho : C.O g = none) (hf : C.P.funcs[g]? = some fn) (hb : fn.body = some c) (hz : args.length ≤ fn.ntmps)
    (hn : (fn.name == "runtime.NumGoroutine") = false) (hu : C.U g = false := by rfl) (hzz : C.Z g = true := by rfl) :
    evF C g [] args = efin C g fn.results.toList [] (evB C g c ⟨⟩ (gZ true (init [] args fn.ntmps 0))) := by
  rw [evF_def, stF]
  simp only [ho, hf, hb, hz, hn, hu, hzz, initU, keysOf, List.map_nil, List.all_nil, implies_true, and_self, if_true, evB]
  cases evC C g c (gZ true (init [] args fn.ntmps 0)) with
  | none => rfl
  | some r => rfl
@[push_cast] theorem evB_skip (t : Tg _) : evB C g .skip t st = some (.normal, st) := by rw [evB, evC_def, stC]
@[push_cast] theorem evB_exit (id : Nat) (t : Tg _) : evB C g (.exit id) t st = some (.exit id, st) := by rw [evB, evC_def, stC]
@[push_cast] theorem evB_ret (t : Tg _) : evB C g .ret t st = some (.ret, st) := by rw [evB, evC_def, stC]
@[push_cast] theorem evB_region (id : Nat) (l : List Oper) (t : Tg _) : evB C g (.region id l.toArray false) t st = normC (evR C l.toArray ⟨⟩ l ⟨⟩ st) := by
  rw [evB, evC_def, stC]
  have := evR_eq (C := C) l.toArray ⟨⟩ l.toArray.size 0 st (by simp) (Nat.zero_le _)
  rw [← List.range_eq_range'] at this
  have e : evOps C l.toArray (List.range l.toArray.size) st = evR C l.toArray ⟨⟩ l ⟨⟩ st := this
  rw [e]
  cases evR C l.toArray ⟨⟩ l ⟨⟩ st <;> rfl
@[push_cast] theorem evB_seq (x y : Code) (t : Tg _) : evB C g (.seq x y) t st = thenS C g y ⟨⟩ (evB C g x ⟨⟩ st) := by
  rw [evB, evC_def, stC, evB]
  cases evC C g x st with
  | none => rfl
  | some r => obtain ⟨e, s⟩ := r; cases e <;> rfl
@[push_cast] theorem evB_cond (x : Operand) (a b : Code) (t : Tg _) : evB C g (.cond x a b) t st = condC (boolOfTV (evc st x)) (evB C g a ⟨⟩ st) (evB C g b ⟨⟩ st) ⟨⟩ := by
  rw [evB, evC_def, stC]
  cases boolOfTV (evc st x) with
  | none => rfl
  | some t => cases t <;> rfl
@[push_cast] theorem condC_some (b : Bool) (x y : Option (Exit × St)) (t : Tg _) : condC (some b) x y t = br b x y ⟨⟩ := by cases b <;> rfl
@[push_cast] theorem evB_block (id : Nat) (c : Code) (t : Tg _) : evB C g (.block id c) t st = inBE id (evB C g c ⟨⟩ st) := by
  rw [evB, evC_def, stC, evB]
  cases evC C g c st <;> rfl
@[push_cast] theorem evB_loop (c : Code) (t : Tg _) : evB C g (.loop c) t st = loopS C g (C.H g (firstRegion c)) c ⟨⟩ (headSt (C.H g (firstRegion c)) st) := by
  rw [evB, evC_def, stC]
  cases headSt (C.H g (firstRegion c)) st <;> rfl
theorem evM_eq (h : LHint) (c : Code) (t : Tg _) : evM C g h c t st = roundC C g h c ⟨⟩ (evB C g c ⟨⟩ st) := by
  rw [evM, evL_def, stL, evB]
  cases evC C g c st with
  | none => rfl
  | some r =>
    obtain ⟨e, s⟩ := r
    cases e with
    | normal =>
      simp only [roundC]
      cases hh : headSt h s <;> simp [hh, loopS, evM]
    | _ => rfl
@[push_cast] theorem evR_nil (ops : Array Oper) (t : Tg ops) (t' : Tg _) : evR C ops t [] t' st = some st := by rw [evR]
@[push_cast] theorem evR_plain (ops : Array Oper) (t : Tg ops) (d : Option Nat) (op : Op) (ty : TypeId) (p : String) (af : Array Edge) (l : List Oper) (t' : Tg _) :
    evR C ops t (Oper.mk d op ty p af none :: l) t' st = evK C ops t l ⟨⟩ (evY C st d op) := by
  rw [evR]
  have : gval ops st (Oper.mk d op ty p af none) = some true := rfl
  rw [this, ev1_dst (C := C) (st := st) (Oper.mk d op ty p af none) { dst := d, op := op, type := 0, pos := "", after := #[], guard := none } (some true) rfl rfl]
  simp only [evY]
  cases ev1 C _ (some true) st <;> rfl
@[push_cast] theorem evR_guard (ops : Array Oper) (t : Tg ops) (d : Option Nat) (op : Op) (ty : TypeId) (p : String) (af : Array Edge) (j : Nat) (w : Bool) (l : List Oper) (t' : Tg _) :
    evR C ops t (Oper.mk d op ty p af (some (j, w)) :: l) t' st = evK C ops t l ⟨⟩ (evX C st d op (ob (ops[j]?) fun oj => ob oj.dst fun d => guardOf (evc st (.tmp d)) w)) := by
  rw [evR]
  have : gval ops st (Oper.mk d op ty p af (some (j, w))) = (ob (ops[j]?) fun oj => ob oj.dst fun d => guardOf (evc st (.tmp d)) w) := rfl
  rw [this, ev1_dst (C := C) (st := st) (Oper.mk d op ty p af (some (j, w))) { dst := d, op := op, type := 0, pos := "", after := #[], guard := none } _ rfl rfl]
  simp only [evX]
  cases ev1 C _ _ st <;> rfl
@[push_cast] theorem evX_some (d : Option Nat) (op : Op) (b : Bool) : evX C st d op (some b) = br b (evY C st d op) (put st (.tup []) d) ⟨⟩ := by
  cases b
  · rw [evX, ev1_def, stE]; rfl
  · rfl
@[push_cast] theorem evY_eq (d : Option Nat) (op : Op) : evY C st d op = evOpD C st d op (callOf op) := by
  rw [evY, ev1_def, stE]
  simp only []
  cases callOf op with
  | none => rfl
  | some p =>
    obtain ⟨f, args⟩ := p
    simp only [evOpD]
    cases extOf C (evc st f) with
    | some h =>
      simp only [evExtP]
      cases h (args.map (evc st)) <;> rfl
    | none =>
    simp only [evExtP]
    cases prep C st (evc st f) (args.map (evc st)) with
    | none => rfl
    | some p =>
      simp only [evPrep]
      cases evF C p.g p.ins p.args <;> rfl
noncomputable def evD4 (s : St) : Option St → Option St
  | none => none
  | some s' => sameO s s'
noncomputable def evD3 (C : Cfg) (ops : Array Oper) (st : St) : DT → Option St → Option St
  | _, none => none
  | .done, some s => some s
  | .alt a re pu next other, some s => evD4 s (evDr C ops (.alt a re pu next other) st)
noncomputable def evD2 (C : Cfg) (ops : Array Oper) (re pu : List Nat) (next other : DT) (st : St) : Option St → Option St
  | none => none
  | some s1 => ob (evPu C.P ops pu s1) fun s2 => br (reB C.P ops s2 re) (evD3 C ops st other (evDr C ops next s2)) none ⟨⟩
noncomputable def evD1 (C : Cfg) (ops : Array Oper) (re pu : List Nat) (next other : DT) (st : St) : Option Oper → Option St
  | none => none
  | some o => evD2 C ops re pu next other st (evX C st o.dst o.op (gval ops st o))
noncomputable def drawC (C : Cfg) (ops : Array Oper) (_ : Tg ops) (pl : Plan) (st : St) : Option (Exit × St) := if planOk ops pl = true ∧ C.P.follows .mixedOrders = true then normC (ob (evPu C.P ops pl.p0 st) (evDr C ops pl.ss)) else none
theorem drawC_ok {ops : Array Oper} {t : Tg ops} {pl : Plan} (h : planOk ops pl = true) (h2 : C.P.follows .mixedOrders = true) : drawC C ops t pl st = normC (ob (evPu C.P ops pl.p0 st) (evDr C ops pl.ss)) := by
  unfold drawC; rw [if_pos ⟨h, h2⟩]
@[push_cast] theorem evB_draw (id : Nat) (ops : Array Oper) (t : Tg _) : evB C g (.region id ops true) t st = drawC C ops ⟨⟩ (C.D g id) st := by
  rw [evB, evC_def, stC]
  simp only [drawC]
  split
  · cases evPu C.P ops (C.D g id).p0 st with
    | none => rfl
    | some s0 => simp only [ob]; cases evDr C ops (C.D g id).ss s0 <;> rfl
  · rfl
@[push_cast] theorem evDr_nil (ops : Array Oper) : evDr C ops .done st = some st := by rw [evDr_def, stD]
@[push_cast] theorem evDr_cons (ops : Array Oper) (i : Nat) (re pu : List Nat) (next other : DT) : evDr C ops (.alt i re pu next other) st = evD1 C ops re pu next other st (ops[i]?) := by
  rw [evDr_def, stD]
  cases ops[i]? with
  | none => rfl
  | some o =>
    simp only [evD1, evX]
    rw [ev1_dst (C := C) (st := st) o { dst := o.dst, op := o.op, type := 0, pos := "", after := #[], guard := none } (gval ops st o) rfl rfl]
    cases ev1 C _ (gval ops st o) st with
    | none => rfl
    | some s1 =>
      simp only [evD2, Option.bind_eq_bind, Option.bind_some]
      cases evPu C.P ops pu s1 with
      | none => rfl
      | some s2 =>
        simp only [ob]
        cases reB C.P ops s2 re with
        | false => rfl
        | true =>
          simp only [br, if_true]
          cases evDr C ops next s2 with
          | none => cases other <;> rfl
          | some s =>
            cases other with
            | done => rfl
            | alt a' re' pu' next' other' =>
              simp only [evD3, Option.bind_some]
              cases evDr C ops (.alt a' re' pu' next' other') st <;> rfl
open Classical in
@[push_cast] theorem sameO_br (s t : St) : sameO s t = br (decide (sameP s t)) (some s) none ⟨⟩ := by
  unfold sameO
  by_cases h : sameP s t <;> simp [h, br]
@[congr] theorem evD4_congr {s : St} {x y : Option St} (h : x = y) : evD4 s x = evD4 s y := by rw [h]
@[congr] theorem evD3_congr {C : Cfg} {ops : Array Oper} {st : St} {o : DT} {x y : Option St} (h : x = y) : evD3 C ops st o x = evD3 C ops st o y := by rw [h]
@[push_cast] theorem pv1_some (P : Program) (op : Op) (b : Bool) : pv1 P st op (some b) = br b (pv2 P st op) (some (.tup [])) ⟨⟩ := by cases b <;> rfl
@[push_cast] theorem thenS_br (y : Code) (t : Tg y) (c : Bool) (a b : Option (Exit × St)) (t' : Tg _) : thenS C g y t (br c a b t') = br c (thenS C g y ⟨⟩ a) (thenS C g y ⟨⟩ b) ⟨⟩ := by cases c <;> rfl
@[push_cast] theorem roundC_br (h : LHint) (y : Code) (t : Tg y) (c : Bool) (a b : Option (Exit × St)) (t' : Tg _) : roundC C g h y t (br c a b t') = br c (roundC C g h y ⟨⟩ a) (roundC C g h y ⟨⟩ b) ⟨⟩ := by cases c <;> rfl
@[push_cast] theorem loopS_br (h : LHint) (y : Code) (t : Tg y) (c : Bool) (a b : Option St) (t' : Tg _) : loopS C g h y t (br c a b t') = br c (loopS C g h y ⟨⟩ a) (loopS C g h y ⟨⟩ b) ⟨⟩ := by cases c <;> rfl
@[push_cast] theorem evD2_br (ops : Array Oper) (re pu : List Nat) (next other : DT) (s : St) (c : Bool) (a b : Option St) (t' : Tg _) : evD2 C ops re pu next other s (br c a b t') = br c (evD2 C ops re pu next other s a) (evD2 C ops re pu next other s b) ⟨⟩ := by cases c <;> rfl
@[push_cast] theorem evD3_br (ops : Array Oper) (other : DT) (s : St) (c : Bool) (a b : Option St) (t' : Tg _) : evD3 C ops s other (br c a b t') = br c (evD3 C ops s other a) (evD3 C ops s other b) ⟨⟩ := by cases c <;> rfl
@[push_cast] theorem evD4_br (s : St) (c : Bool) (a b : Option St) (t' : Tg _) : evD4 s (br c a b t') = br c (evD4 s a) (evD4 s b) ⟨⟩ := by cases c <;> rfl
@[push_cast] theorem normC_br (c : Bool) (a b : Option St) (t' : Tg _) : normC (br c a b t') = br c (normC a) (normC b) ⟨⟩ := by cases c <;> rfl
@[push_cast] theorem inBE_br (id : Nat) (c : Bool) (a b : Option (Exit × St)) (t' : Tg _) : inBE id (br c a b t') = br c (inBE id a) (inBE id b) ⟨⟩ := by cases c <;> rfl
@[push_cast] theorem evK_br (ops : Array Oper) (t : Tg ops) (l : List Oper) (t2 : Tg l) (c : Bool) (a b : Option St) (t' : Tg _) : evK C ops t l t2 (br c a b t') = br c (evK C ops t l t2 a) (evK C ops t l t2 b) ⟨⟩ := by cases c <;> rfl
@[push_cast] theorem efin_br (rv : List ResultVar) (ins : Objs) (c : Bool) (a b : Option (Exit × St)) (t' : Tg _) : efin C g rv ins (br c a b t') = br c (efin C g rv ins a) (efin C g rv ins b) ⟨⟩ := by cases c <;> rfl
@[push_cast] theorem ob_br {α β : Type} (c : Bool) (a b : Option α) (f : α → Option β) (t' : Tg _) : ob (br c a b t') f = br c (ob a f) (ob b f) ⟨⟩ := by cases c <;> rfl
end
section
variable {C : Cfg} {g : FuncId}
theorem evM_for {h : LHint} {c : Code} {α : Type} (n : Nat) (F : Nat → Int → α → St) (R : Nat → α → Option (Exit × St))
    (step : ∀ (i : Nat) (x : α), i < n → (∀ y, evM C g h c ⟨⟩ (F (i + 1) ((i : Int) + 1) y) = R (i + 1) y) → roundC C g h c ⟨⟩ (evB C g c ⟨⟩ (F i (i : Int) x)) = R i x)
    (last : ∀ x, roundC C g h c ⟨⟩ (evB C g c ⟨⟩ (F n (n : Int) x)) = R n x) (x : α) : evM C g h c ⟨⟩ (F 0 0 x) = R 0 x := by
  have key : ∀ k i : Nat, i + k = n → ∀ x, evM C g h c ⟨⟩ (F i (i : Int) x) = R i x := by
    intro k
    induction k with
    | zero =>
      intro i hi x
      have hin : i = n := by omega
      subst hin
      rw [evM_eq]
      exact last x
    | succ k ih =>
      intro i hi x
      rw [evM_eq]
      exact step i x (by omega) fun y => by
        have := ih (i + 1) (by omega) y
        rwa [show (((i + 1 : Nat)) : Int) = (i : Int) + 1 by omega] at this
  exact key n 0 (by omega) x
theorem evM_for0 {h : LHint} {c : Code} (n : Nat) (F : Nat → Int → St) (R : Nat → Option (Exit × St))
    (step : ∀ (i : Nat), i < n → evM C g h c ⟨⟩ (F (i + 1) ((i : Int) + 1)) = R (i + 1) → roundC C g h c ⟨⟩ (evB C g c ⟨⟩ (F i (i : Int))) = R i)
    (last : roundC C g h c ⟨⟩ (evB C g c ⟨⟩ (F n (n : Int))) = R n) : evM C g h c ⟨⟩ (F 0 0) = R 0 :=
  evM_for n (fun i j (_ : Unit) => F i j) (fun i _ => R i) (fun i _ hi ih => step i hi (ih ())) (fun _ => last) ()
end
@[push_cast] theorem dec_irr (a : Int) : decide (a < a) = false := by simp
theorem dec_lt {i n : Nat} (h : i < n) : decide ((i : Int) < (n : Int)) = true := by simpa using h
theorem dec_ltN {i n : Nat} (h : i < n) : decide (i < n) = true := by simpa using h
@[push_cast] theorem dec_nn (i : Nat) : decide (0 ≤ (i : Int)) = true := by simp
theorem ba_toList (x : ByteArray) : x.toList = x.data.toList := by
  have key : ∀ (n i : Nat) (r : List UInt8), n = x.size - i → ByteArray.toList.loop x i r = r.reverse ++ x.data.toList.drop i := by
    intro n
    induction n with
    | zero =>
      intro i r h
      rw [ByteArray.toList.loop, if_neg (by omega)]
      have hz : x.data.toList.length = x.size := by simp
      have : x.data.toList.drop i = [] := List.drop_eq_nil_of_le (by omega)
      rw [this, List.append_nil]
    | succ n ih =>
      intro i r h
      have hi : i < x.size := by omega
      rw [ByteArray.toList.loop, if_pos hi, ih (i + 1) _ (by omega)]
      have hl : i < x.data.toList.length := by simpa using hi
      rw [List.drop_eq_getElem_cons hl, List.reverse_cons, List.append_assoc, List.singleton_append]
      congr 2
      simp [ByteArray.get!, hi]
  have := key x.size 0 [] (by omega)
  simp only [List.reverse_nil, List.nil_append, List.drop_zero] at this
  exact this
@[push_cast] theorem toList_beq (x y : ByteArray) : (x.toList == y.toList) = decide (x = y) := by
  rw [ba_toList, ba_toList]
  by_cases h : x = y
  · subst h; simp
  · have : ¬ x.data.toList = y.data.toList := fun e => h (ByteArray.ext (Array.toList_inj.1 e))
    rw [decide_eq_false h]
    exact beq_eq_false_iff_ne.2 this
theorem i64_in {n : Int} (h1 : -9223372036854775808 ≤ n) (h2 : n ≤ 9223372036854775807) : IntKind.i64.wrap n = n := by
  have a : ((2 : Int) ^ IntKind.i64.bits) = 18446744073709551616 := by decide
  have b : ((2 : Int) ^ (IntKind.i64.bits - 1)) = 9223372036854775808 := by decide
  have c : IntKind.i64.signed = true := rfl
  simp only [IntKind.wrap, a, b, c, Bool.true_and, decide_eq_true_eq]
  split <;> omega
@[push_cast] theorem wrap_l0 : IntKind.i64.wrap 0 = 0 := by decide
@[push_cast] theorem wrap_l1 : IntKind.i64.wrap 1 = 1 := by decide
@[push_cast] theorem wrap_l2 : IntKind.i64.wrap 2 = 2 := by decide
@[push_cast] theorem wrap_l3 : IntKind.i64.wrap 3 = 3 := by decide
@[push_cast] theorem wrap_l4 : IntKind.i64.wrap 4 = 4 := by decide
@[push_cast] theorem wrap_l5 : IntKind.i64.wrap 5 = 5 := by decide
@[push_cast] theorem wrap_l6 : IntKind.i64.wrap 6 = 6 := by decide
@[push_cast] theorem wrap_l7 : IntKind.i64.wrap 7 = 7 := by decide
@[push_cast] theorem wrap_l8 : IntKind.i64.wrap 8 = 8 := by decide
@[push_cast] theorem wrap_l9 : IntKind.i64.wrap 9 = 9 := by decide
@[push_cast] theorem wrap_l10 : IntKind.i64.wrap 10 = 10 := by decide
@[push_cast] theorem wrap_l11 : IntKind.i64.wrap 11 = 11 := by decide
@[push_cast] theorem wrap_l12 : IntKind.i64.wrap 12 = 12 := by decide
end Go.Av
end
