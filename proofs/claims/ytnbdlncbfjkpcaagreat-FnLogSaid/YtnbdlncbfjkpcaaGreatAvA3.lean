/- Texts that the last one goes by: Ev2, Ev3, Ev4, Ev4b, Ev4c. -/
import Derived.Test.YtnbdlncbfjkpcaaGreatAvA2
set_option linter.all false
set_option linter.unusedVariables false
set_option linter.unusedSimpArgs false
section
set_option linter.unusedSectionVars false
namespace Go.Av
section
variable [Known] {P : Program} {X : Nat → Prop} {β0 : Places} {w0 w w' : World} {S0 S S' : Stable} {st st' : St} {a : Act} {β β' : Places}
theorem okB_iff {l : List Nat} : ∀ {tv : TV}, tv.okB l = true ↔ tv.ok (· ∈ l) := by
  have key : ∀ n : Nat, ∀ tv : TV, SizeOf.sizeOf tv < n → (tv.okB l = true ↔ tv.ok (· ∈ l)) := by
    intro n
    induction n with
    | zero => exact fun tv h => absurd h (Nat.not_lt_zero _)
    | succ n ih =>
      intro tv hn
      have many : ∀ cs : List TV, (∀ x ∈ cs, SizeOf.sizeOf x < n) → (okBL l cs = true ↔ okL (· ∈ l) cs) := by
        intro cs
        induction cs with
        | nil => intro _; simp [okBL, okL]
        | cons x xs ihx =>
          intro hc
          simp only [okBL, okL, Bool.and_eq_true]
          rw [ih x (hc x (by simp)), ihx (fun y hy => hc y (List.mem_cons_of_mem _ hy))]
      cases tv with
      | agg cs => exact many cs (fun x hx => by have := List.sizeOf_lt_of_mem hx; simp at hn; omega)
      | tup cs => exact many cs (fun x hx => by have := List.sizeOf_lt_of_mem hx; simp at hn; omega)
      | clo g cs => exact many cs (fun x hx => by have := List.sizeOf_lt_of_mem hx; simp at hn; omega)
      | ptr k off => exact hasKey_iff
      | own k => exact hasKey_iff
      | ap k i g => exact hasKey_iff
      | unk => simp [TV.okB, TV.ok]
      | d t => simp [TV.okB, TV.ok]
      | nl => simp [TV.okB, TV.ok]
      | rp t => simp [TV.okB, TV.ok]
      | fn t => simp [TV.okB, TV.ok]
  exact fun {tv} => key _ tv (Nat.lt_succ_self _)
theorem okBL_iff {l : List Nat} : ∀ {cs : List TV}, okBL l cs = true ↔ okL (· ∈ l) cs
  | [] => by simp [okBL, okL]
  | x :: xs => by simp only [okBL, okL, Bool.and_eq_true]; rw [okB_iff, okBL_iff]
theorem okOB_iff {l : List Nat} {o : Obj} : o.okOB l = true ↔ o.okO (· ∈ l) := by
  cases o with
  | box cs ty => exact okBL_iff
  | arr _ _ _ => simp [Obj.okOB, Obj.okO]
  | fz _ _ _ => simp [Obj.okOB, Obj.okO]
theorem ren_id {f : Nat → Nat} : ∀ {tv : TV}, tv.ok (fun k => f k = k) → tv.ren f = tv := by
  have key : ∀ n : Nat, ∀ x : TV, SizeOf.sizeOf x < n → x.ok (fun k => f k = k) → x.ren f = x := by
    intro n
    induction n with
    | zero => exact fun x h => absurd h (Nat.not_lt_zero _)
    | succ n ih =>
      intro x hn ho
      have many : ∀ cs : List TV, (∀ y ∈ cs, SizeOf.sizeOf y < n) → okL (fun k => f k = k) cs → renL f cs = cs := by
        intro cs hc h
        rw [renL_eq]
        conv => rhs; rw [← List.map_id cs]
        exact List.map_congr_left fun y hy => ih y (hc y hy) (okL_iff.1 h y hy)
      cases x with
      | agg cs => rw [TV.ren, many cs (fun y hy => by have := List.sizeOf_lt_of_mem hy; simp at hn; omega) ho]
      | tup cs => rw [TV.ren, many cs (fun y hy => by have := List.sizeOf_lt_of_mem hy; simp at hn; omega) ho]
      | clo g cs => rw [TV.ren, many cs (fun y hy => by have := List.sizeOf_lt_of_mem hy; simp at hn; omega) ho]
      | ptr k off => exact congrArg (TV.ptr · off) ho
      | own k => exact congrArg TV.own ho
      | ap k i g => exact congrArg (TV.ap · i g) ho
      | _ => rfl
  exact fun {x} h => key _ x (Nat.lt_succ_self _) h
theorem ren_ren {f g : Nat → Nat} : ∀ {tv : TV}, (tv.ren f).ren g = tv.ren (fun k => g (f k)) := by
  have key : ∀ n : Nat, ∀ x : TV, SizeOf.sizeOf x < n → (x.ren f).ren g = x.ren (fun k => g (f k)) := by
    intro n
    induction n with
    | zero => exact fun x h => absurd h (Nat.not_lt_zero _)
    | succ n ih =>
      intro x hn
      have many : ∀ cs : List TV, (∀ y ∈ cs, SizeOf.sizeOf y < n) → renL g (renL f cs) = renL (fun k => g (f k)) cs := by
        intro cs hc
        rw [renL_eq, renL_eq, renL_eq, List.map_map]
        exact List.map_congr_left fun y hy => ih y (hc y hy)
      cases x with
      | agg cs => simp only [TV.ren, many cs (fun y hy => by have := List.sizeOf_lt_of_mem hy; simp at hn; omega)]
      | tup cs => simp only [TV.ren, many cs (fun y hy => by have := List.sizeOf_lt_of_mem hy; simp at hn; omega)]
      | clo h cs => simp only [TV.ren, many cs (fun y hy => by have := List.sizeOf_lt_of_mem hy; simp at hn; omega)]
      | _ => rfl
  exact fun {x} => key _ x (Nat.lt_succ_self _)
theorem ren_back {f g : Nat → Nat} {tv : TV} (h : tv.ok (fun k => g (f k) = k)) : (tv.ren f).ren g = tv := by
  rw [ren_ren]; exact ren_id h
theorem renL_len (f : Nat → Nat) (l : List TV) : (renL f l).length = l.length := by rw [renL_eq]; simp
theorem renL_get (f : Nat → Nat) (l : List TV) (i : Nat) (h : i < (renL f l).length) : (renL f l)[i] = (l[i]'(by rwa [renL_len] at h)).ren f := by
  simp only [renL_eq, List.getElem_map]
theorem oren_back {f g : Nat → Nat} {o : Obj} (h : o.okO (fun k => g (f k) = k)) : (o.ren f).ren g = o := by
  cases o with
  | box cs ty =>
    have h' : okL (fun k => g (f k) = k) cs := h
    simp only [Obj.ren]
    congr 1
    rw [renL_eq, renL_eq, List.map_map]
    conv => rhs; rw [← List.map_id cs]
    exact List.map_congr_left fun y hy => ren_back (okL_iff.1 h' y hy)
  | arr _ _ _ => rfl
  | fz _ _ _ => rfl
theorem idx_add (k : Nat) : ∀ (l : List Nat) (i : Nat), idx k i l = i + idx k 0 l
  | [], i => rfl
  | j :: l, i => by
    simp only [idx]
    cases hk : (k == j) with
    | true => rfl
    | false => simp only [cond_false]; rw [idx_add k l (i + 1), idx_add k l (0 + 1)]; omega
theorem idx_nth {k : Nat} : ∀ {l : List Nat}, k ∈ l → idx k 0 l < l.length ∧ nth l (idx k 0 l) = k
  | [], h => by cases h
  | j :: l, h => by
    simp only [idx]
    cases hk : (k == j) with
    | true => simp only [cond_true]; exact ⟨by simp, (beq_iff_eq.1 hk).symm⟩
    | false =>
      simp only [cond_false]
      have hm : k ∈ l := by
        rcases List.mem_cons.1 h with h | h
        · subst h; simp at hk
        · exact h
      obtain ⟨h1, h2⟩ := idx_nth hm
      rw [idx_add k l 1, Nat.add_comm 1]
      exact ⟨by simpa using h1, h2⟩
theorem idx_inj {k k' i : Nat} {l : List Nat} (h : k ∈ l) (h' : k' ∈ l) (e : idx k i l = idx k' i l) : k = k' := by
  rw [idx_add k, idx_add k'] at e
  rw [← (idx_nth h).2, ← (idx_nth h').2, show idx k 0 l = idx k' 0 l by omega]
theorem pick_eq {o : Objs} {f : Nat → Nat} : ∀ {κ : List Nat} {r r0 : Objs}, pick o f κ = some r → pickI o κ = some r0 → keysOf r0 = κ ∧ r = renO f r0 ∧ (∀ k x, lk k r0 = some x → lk k o = some x) ∧ keysOf r = κ.map f
  | [], r, r0, h, h0 => by cases h; cases h0; exact ⟨rfl, rfl, fun k x hk => (by cases hk), rfl⟩
  | k :: κ, r, r0, h, h0 => by
    obtain ⟨x, h1, h⟩ := ob_eq_some h
    obtain ⟨r', h2, h⟩ := ob_eq_some h
    cases h
    obtain ⟨x', h1', h0⟩ := ob_eq_some h0
    obtain ⟨r0', h2', h0⟩ := ob_eq_some h0
    cases h0
    rw [h1] at h1'; cases h1'
    obtain ⟨g1, g2, g3, g4⟩ := pick_eq h2 h2'
    refine ⟨?_, ?_, ?_, ?_⟩
    · simp only [keysOf, List.map_cons]; exact congrArg _ g1
    · rw [g2]; rfl
    · intro j y hj
      by_cases hjk : j = k
      · subst hjk; rw [lk_cons_eq] at hj; cases hj; exact h1
      · rw [lk_cons_ne _ _ hjk] at hj; exact g3 j y hj
    · simp only [keysOf, List.map_cons]; exact congrArg _ g4
theorem allOk_lk {l : List Nat} : ∀ {o : Objs} {k : Nat} {x : Obj}, allOk l o = true → lk k o = some x → x.okO (· ∈ l)
  | [], _, _, _, h => by cases h
  | (j, y) :: o, k, x, ha, h => by
    simp only [allOk, Bool.and_eq_true] at ha
    by_cases hk : k = j
    · subst hk; rw [lk_cons_eq] at h; cases h; exact okOB_iff.1 ha.1
    · rw [lk_cons_ne _ _ hk] at h; exact allOk_lk ha.2 h
theorem frzObj_idem (g g' : Option (Nat × Bool)) (o : Obj) : frzObj g' (frzObj g o) = frzObj g o := by cases o <;> rfl
theorem frz_lk : ∀ (l : List Nat) (st : St) (j : Nat) (o : Obj), lk j st.o = some o → (j ∈ l → ∃ g, lk j (Av.frz st l).o = some (frzObj g o)) ∧ ((∃ g, o = frzObj g o) → lk j (Av.frz st l).o = some o)
  | [], st, j, o, h => ⟨fun hm => (by cases hm), fun _ => h⟩
  | k :: l, st, j, o, h => by
    rw [Av.frz]
    by_cases hj : j = k
    · subst hj
      have e : lk j (Av.frz1 st j (lk j st.o)).o = some (frzObj st.g o) := by rw [h]; exact lk_cons_eq _ _ _
      have h2 := (frz_lk l _ j _ e).2 ⟨st.g, (frzObj_idem _ _ o).symm⟩
      refine ⟨fun _ => ⟨_, h2⟩, ?_⟩
      rintro ⟨g, hg⟩
      rw [h2]
      congr 1
      rw [hg, frzObj_idem]
    · have e : lk j (Av.frz1 st k (lk k st.o)).o = some o := by
        cases hk : lk k st.o with
        | none => exact h
        | some x => exact (lk_cons_ne _ _ hj).trans h
      obtain ⟨a1, a2⟩ := frz_lk l _ j o e
      exact ⟨fun hm => a1 ((List.mem_cons.1 hm).resolve_left hj), a2⟩
theorem lowTV_le {fk : List Nat} : ∀ {x : TV}, (∀ k ∈ ownKeys x, k ∈ fk) → Le P (Av.frz st fk) x (lowTV st.o x) := by
  have key : ∀ n : Nat, ∀ x : TV, SizeOf.sizeOf x < n → (∀ k ∈ ownKeys x, k ∈ fk) → Le P (Av.frz st fk) x (lowTV st.o x) := by
    intro n
    induction n with
    | zero => exact fun x h => absurd h (Nat.not_lt_zero _)
    | succ n ih =>
      intro x hn hk
      cases x with
      | own k =>
        simp only [lowTV]
        have hm : k ∈ fk := hk k (by simp [ownKeys])
        cases ho : lk k st.o with
        | none => exact .same _
        | some o =>
          obtain ⟨g, hf⟩ := (frz_lk fk st k o ho).1 hm
          cases o with
          | box cs ty => exact .same _
          | arr A m es => exact .own hf (.sl (fun _ _ => trivial) (fun q h => by cases h) rfl (fun _ _ _ => rfl) (fun _ _ _ _ _ _ => .refl _))
          | fz A m es => exact .own hf (.sl (fun _ _ => trivial) (fun q h => by cases h) rfl (fun _ _ _ => rfl) (fun _ _ _ _ _ _ => .refl _))
      | agg cs =>
        simp only [lowTV]
        have many : ∀ cs : List TV, (∀ y ∈ cs, SizeOf.sizeOf y < n) → (∀ k ∈ ownKeysL cs, k ∈ fk) → (lowL st.o cs).length = cs.length ∧
            ∀ i (hi : i < cs.length) (hj : i < (lowL st.o cs).length), Le P (Av.frz st fk) cs[i] (lowL st.o cs)[i] := by
          intro cs
          induction cs with
          | nil => exact fun _ _ => ⟨rfl, fun i hi => absurd hi (by simp)⟩
          | cons y ys ihy =>
            intro h1 h2
            obtain ⟨g1, g2⟩ := ihy (fun z hz => h1 z (List.mem_cons_of_mem _ hz)) (fun k hk => h2 k (by simp [ownKeysL, hk]))
            refine ⟨by simp [lowL, g1], fun i hi hj => ?_⟩
            cases i with
            | zero => exact ih y (h1 y (by simp)) (fun k hk => h2 k (by simp [ownKeysL, hk]))
            | succ i => simpa [lowL] using g2 i (by simpa using hi) (by simpa [lowL] using hj)
        obtain ⟨g1, g2⟩ := many cs (fun y hy => by have := List.sizeOf_lt_of_mem hy; simp at hn; omega) (fun k h => hk k (by simpa [ownKeys] using h))
        exact .agg g1.symm g2
      | nl => exact .nl
      | _ => exact .same _
  exact fun {x} h => key _ x (Nat.lt_succ_self _) h
theorem lowL_le {fk : List Nat} : ∀ {cs : List TV}, (∀ k ∈ ownKeysL cs, k ∈ fk) → (lowL st.o cs).length = cs.length ∧
    ∀ i (hi : i < cs.length) (hj : i < (lowL st.o cs).length), Le P (Av.frz st fk) cs[i] (lowL st.o cs)[i]
  | [], _ => ⟨rfl, fun i hi => absurd hi (by simp)⟩
  | y :: ys, h2 => by
    obtain ⟨g1, g2⟩ := lowL_le (cs := ys) (fun k hk => h2 k (by simp [ownKeysL, hk]))
    refine ⟨by simp [lowL, g1], fun i hi hj => ?_⟩
    cases i with
    | zero => exact lowTV_le (fun k hk => h2 k (by have hk' : k ∈ ownKeys y := hk; simp [ownKeysL, hk']))
    | succ i => simpa [lowL] using g2 i (by simpa using hi) (by simpa [lowL] using hj)
theorem lowZ_le : ∀ {x : TV}, Le P st x (lowZ st.o x) := by
  have key : ∀ n : Nat, ∀ x : TV, SizeOf.sizeOf x < n → Le P st x (lowZ st.o x) := by
    intro n
    induction n with
    | zero => exact fun x h => absurd h (Nat.not_lt_zero _)
    | succ n ih =>
      intro x hn
      cases x with
      | own k =>
        simp only [lowZ]
        cases ho : lk k st.o with
        | none => exact .same _
        | some o =>
          cases o with
          | fz A m es => exact .own ho (.refl _)
          | _ => exact .same _
      | agg cs =>
        simp only [lowZ]
        have many : ∀ cs : List TV, (∀ y ∈ cs, SizeOf.sizeOf y < n) → (lowZL st.o cs).length = cs.length ∧ ∀ i (hi : i < cs.length) (hj : i < (lowZL st.o cs).length), Le P st cs[i] (lowZL st.o cs)[i] := by
          intro cs
          induction cs with
          | nil => exact fun _ => ⟨rfl, fun i hi => absurd hi (by simp)⟩
          | cons y ys ihy =>
            intro h1
            obtain ⟨g1, g2⟩ := ihy (fun z hz => h1 z (List.mem_cons_of_mem _ hz))
            refine ⟨by simp [lowZL, g1], fun i hi hj => ?_⟩
            cases i with
            | zero => exact ih y (h1 y (by simp))
            | succ i => simpa [lowZL] using g2 i (by simpa using hi) (by simpa [lowZL] using hj)
        obtain ⟨g1, g2⟩ := many cs (fun y hy => by have := List.sizeOf_lt_of_mem hy; simp at hn; omega)
        exact .agg g1.symm g2
      | nl => exact .nl
      | _ => exact .same _
  exact fun {x} => key _ x (Nat.lt_succ_self _)
theorem lowZL_le : ∀ {cs : List TV}, (lowZL st.o cs).length = cs.length ∧ ∀ i (hi : i < cs.length) (hj : i < (lowZL st.o cs).length), Le P st cs[i] (lowZL st.o cs)[i]
  | [] => ⟨rfl, fun i hi => absurd hi (by simp)⟩
  | y :: ys => by
    obtain ⟨g1, g2⟩ := lowZL_le (cs := ys)
    refine ⟨by simp [lowZL, g1], fun i hi hj => ?_⟩
    cases i with
    | zero => exact lowZ_le
    | succ i => simpa [lowZL] using g2 i (by simpa using hi) (by simpa [lowZL] using hj)
theorem erase_le {y : TV} {x : TV} (h : Le P st x y) : Le P st x (eraseTV y) := .er h
theorem erz_le {g : Option (Nat × Bool)} {z : Bool} {xs ys : List TV} (hl : ys.length = xs.length) (h : ∀ i (hi : i < xs.length) (hj : i < ys.length), Le P st xs[i] ys[i]) :
    (erz g z ys).length = xs.length ∧ ∀ i (hi : i < xs.length) (hj : i < (erz g z ys).length), Le P st xs[i] (erz g z ys)[i] := by
  have e : (eraseL ys).length = xs.length ∧ ∀ i (hi : i < xs.length) (hj : i < (eraseL ys).length), Le P st xs[i] (eraseL ys)[i] :=
    ⟨by rw [(eraseL_get ys).1, hl], fun i hi hj => by rw [(eraseL_get ys).2 i (by omega) hj]; exact erase_le (h i hi (by omega))⟩
  cases g with
  | none => cases z with
    | false => exact ⟨hl, h⟩
    | true => exact e
  | some n => exact e
theorem Sim.renSt' {σ : Nat → Nat} (h : Sim P X β0 w0 S0 st a w S β) (hinj : ∀ k k', k ∈ st.ks → k' ∈ st.ks → σ k = σ k' → k = k') (hlow : ∀ k, σ k < 40 → σ k = k)
    (hwr : ∀ k ob, lk k st.o = some ob → k < 40 → σ k = k ∨ ob.writable = true)
    (hko : ∀ k ∈ keysOf st.o, k ∈ st.ks) :
    ∃ β', Sim P X β0 w0 S0 { t := renT σ st.t, o := renO σ st.o, ks := st.ks.map σ, n := st.n, sz := st.sz, u := noU, g := st.g } a w S β' := by
  let β' : Places := fun j => match st.ks.find? (fun k => σ k == j) with
    | some k => β k
    | none => β j
  have hβ : ∀ k, k ∈ st.ks → β' (σ k) = β k := by
    intro k hk
    simp only [β']
    cases hf : st.ks.find? (fun k' => σ k' == σ k) with
    | none => have := List.find?_eq_none.1 hf k hk; simp at this
    | some k' =>
      have h1 := List.mem_of_find?_eq_some hf
      have h2 := List.find?_some hf
      simp only [beq_iff_eq] at h2
      simp only [hinj k' k h1 hk h2]
  have hfix : ∀ j, j < 40 → β' j = β j := by
    intro j hj
    simp only [β']
    cases hf : st.ks.find? (fun k' => σ k' == j) with
    | none => rfl
    | some k' =>
      have h2 := List.find?_some hf
      simp only [beq_iff_eq] at h2
      have e := hlow k' (by omega)
      rw [e] at h2
      simp only [h2]
  have hinj' : ∀ k k', k ∈ keysOf st.o → k' ∈ keysOf st.o → σ k = σ k' → k = k' := fun k k' h1 h2 => hinj k k' (hko k h1) (hko k' h2)
  have lkt : ∀ (l : List (Nat × TV)) i tv, lk i (renT σ l) = some tv → ∃ x, lk i l = some x ∧ tv = x.ren σ := by
    intro l
    induction l with
    | nil => intro i tv h; cases h
    | cons p l ih =>
      intro i tv hl
      obtain ⟨j, x⟩ := p
      simp only [renT] at hl
      by_cases hij : i = j
      · subst hij; rw [lk_cons_eq] at hl; cases hl; exact ⟨x, lk_cons_eq _ _ _, rfl⟩
      · rw [lk_cons_ne _ _ hij] at hl
        obtain ⟨y, h1, h2⟩ := ih i tv hl
        exact ⟨y, by rw [lk_cons_ne _ _ hij]; exact h1, h2⟩
  refine ⟨β', h.kn, h.dfr, h.size, ?_, ?_, ?_, ?_, ?_, h.bnd, h.sub, h.new, h.below, h.n, fun k hk => (hfix k hk).trans (h.fix k hk), fun b o hb => (by cases hb), h.tk⟩
  · intro i tv hl
    obtain ⟨x, h1, rfl⟩ := lkt _ _ _ hl
    obtain ⟨v, hv, hr, ho⟩ := h.tmps i x h1
    exact ⟨v, hv, hr.rename (p := (· ∈ st.ks)) hβ ho, ren_ok (p := (· ∈ st.ks)) (fun k hk => List.mem_map_of_mem hk) ho⟩
  · intro j ob hl
    obtain ⟨k, x, rfl, h1, rfl⟩ := renO_lk hinj' hl
    obtain ⟨g1, g2, g3⟩ := h.objs k x h1
    exact ⟨g1.rename (p := (· ∈ st.ks)) hβ g3 g2, okO_ren (p := (· ∈ st.ks)) (fun k hk => List.mem_map_of_mem hk) g2, List.mem_map_of_mem g3⟩
  · intro j ob hl x hx
    obtain ⟨k, y, rfl, h1, rfl⟩ := renO_lk hinj' hl
    obtain ⟨_, _, g3⟩ := h.objs k y h1
    rw [hβ k g3] at hx
    rw [wr_ren]
    rcases h.own k y h1 x hx with ⟨h4, h5⟩ | h4
    · rcases hwr k y h1 h4 with h6 | h6
      · exact .inl ⟨by rw [h6]; exact h4, h5⟩
      · exact .inr (.inl (h5 h6))
    · exact .inr h4
  · intro j j' ob ob' hl hl' hne x hx
    obtain ⟨k, y, rfl, h1, rfl⟩ := renO_lk hinj' hl
    obtain ⟨k', y', rfl, h1', rfl⟩ := renO_lk hinj' hl'
    obtain ⟨_, _, g3⟩ := h.objs k y h1
    obtain ⟨_, _, g3'⟩ := h.objs k' y' h1'
    rw [hβ k g3] at hx
    rw [hβ k' g3']
    exact h.inj k k' y y' h1 h1' (fun e => hne (by rw [e])) x hx
  · intro j ob hl hw x hx
    obtain ⟨k, y, rfl, h1, rfl⟩ := renO_lk hinj' hl
    obtain ⟨_, _, g3⟩ := h.objs k y h1
    rw [hβ k g3] at hx
    rw [wr_ren] at hw
    exact h.sep k y h1 hw x hx
theorem Sim.renSt {σ : Nat → Nat} (h : Sim P X β0 w0 S0 st a w S β) (hinj : ∀ k k', k ∈ st.ks → k' ∈ st.ks → σ k = σ k' → k = k') (hlow : ∀ k, k < 40 → σ k = k) (hhigh : ∀ k, 40 ≤ k → 40 ≤ σ k)
    (hko : ∀ k ∈ keysOf st.o, k ∈ st.ks) :
    ∃ β', Sim P X β0 w0 S0 { t := renT σ st.t, o := renO σ st.o, ks := st.ks.map σ, n := st.n, sz := st.sz, u := noU, g := st.g } a w S β' :=
  h.renSt' hinj (fun k hk => by
    rcases Nat.lt_or_ge k 40 with g | g
    · exact hlow k g
    · have := hhigh k g; omega) (fun k _ _ hk => .inl (hlow k hk)) hko
theorem keepT_lk {t : List (Nat × TV)} : ∀ {l : List Nat} {i : Nat} {x : TV}, lk i (keepT t l) = some x → lk i t = some x
  | [], _, _, h => by cases h
  | j :: l, i, x, h => by
    simp only [keepT] at h
    cases hj : lk j t with
    | none => rw [hj] at h; exact keepT_lk h
    | some y =>
      rw [hj] at h
      by_cases hij : i = j
      · subst hij; rw [lk_cons_eq] at h; cases h; exact hj
      · rw [lk_cons_ne _ _ hij] at h; exact keepT_lk h
theorem valsT_mem : ∀ {t : List (Nat × TV)} {i : Nat} {x : TV}, lk i t = some x → x ∈ valsT t
  | [], _, _, h => by cases h
  | (j, y) :: l, i, x, h => by
    by_cases hij : i = j
    · subst hij; rw [lk_cons_eq] at h; cases h; simp [valsT]
    · rw [lk_cons_ne _ _ hij] at h; simp [valsT, valsT_mem h]
theorem Sim.noU (h : Sim P X β0 w0 S0 st a w S β) : Sim P X β0 w0 S0 { t := st.t, o := st.o, ks := st.ks, n := 0, sz := st.sz, u := Av.noU, g := st.g } a w S β :=
  ⟨h.kn, h.dfr, h.size, h.tmps, h.objs, h.own, h.inj, h.sep, h.bnd, h.sub, h.new, h.below, Nat.zero_le _, h.fix, fun b o hb => (by cases hb), h.tk⟩
theorem mem_news {k : Nat} : ∀ {l : List Nat}, k ∈ l → 40 ≤ k → k ∈ news l
  | [], h, _ => by cases h
  | j :: l, h, h40 => by
    simp only [news]
    rcases List.mem_cons.1 h with h | h
    · subst h; rw [decide_eq_false (by omega)]; simp
    · have := mem_news h h40
      cases decide (j < 40) <;> simp [this]
theorem canon2_spec (κ : List Nat) : (∀ k, k < 40 → canon2 (news κ) k = k) ∧ (∀ k, 40 ≤ k → 40 ≤ canon2 (news κ) k) ∧ (∀ k k', k ∈ κ → k' ∈ κ → canon2 (news κ) k = canon2 (news κ) k' → k = k') := by
  have h1 : ∀ k, k < 40 → canon2 (news κ) k = k := by
    intro k hk; simp [canon2, hk]
  have h2 : ∀ k, 40 ≤ k → canon2 (news κ) k = idx k 50 (news κ) := by
    intro k hk; simp only [canon2]; rw [decide_eq_false (by omega)]; rfl
  have h3 : ∀ k, 40 ≤ k → 40 ≤ canon2 (news κ) k := by
    intro k hk; rw [h2 k hk, idx_add]; omega
  refine ⟨h1, h3, fun k k' hk hk' e => ?_⟩
  rcases Nat.lt_or_ge k 40 with h | h
  · rcases Nat.lt_or_ge k' 40 with h' | h'
    · rw [h1 k h, h1 k' h'] at e; exact e
    · rw [h1 k h] at e; have := h3 k' h'; omega
  · rcases Nat.lt_or_ge k' 40 with h' | h'
    · rw [h1 k' h'] at e; have := h3 k h; omega
    · rw [h2 k h, h2 k' h'] at e; exact idx_inj (mem_news hk h) (mem_news hk' h') e
theorem canon_spec (κ : List Nat) : (∀ k, k < 40 → canon (news κ) k = k) ∧ (∀ k, 40 ≤ k → 40 ≤ canon (news κ) k) ∧ (∀ k k', k ∈ κ → k' ∈ κ → canon (news κ) k = canon (news κ) k' → k = k') := by
  have h1 : ∀ k, k < 40 → canon (news κ) k = k := by
    intro k hk; simp [canon, hk]
  have h2 : ∀ k, 40 ≤ k → canon (news κ) k = idx k 40 (news κ) := by
    intro k hk; simp only [canon]; rw [decide_eq_false (by omega)]; rfl
  have h3 : ∀ k, 40 ≤ k → 40 ≤ canon (news κ) k := by
    intro k hk; rw [h2 k hk, idx_add]; omega
  refine ⟨h1, h3, fun k k' hk hk' e => ?_⟩
  rcases Nat.lt_or_ge k 40 with h | h
  · rcases Nat.lt_or_ge k' 40 with h' | h'
    · rw [h1 k h, h1 k' h'] at e; exact e
    · rw [h1 k h] at e; have := h3 k' h'; omega
  · rcases Nat.lt_or_ge k' 40 with h' | h'
    · rw [h1 k' h'] at e; have := h3 k h; omega
    · rw [h2 k h, h2 k' h'] at e; exact idx_inj (mem_news hk h) (mem_news hk' h') e
theorem prune2_sound {s : St} {ik : List Nat} {t : List (Nat × TV)} (ht : ∀ i x, lk i t = some x → lk i st.t = some x) (e : prune2 st ik t = some s) (h : Sim P X β0 w0 S0 st a w S β) : SimE P X β0 w0 S0 s a w := by
  unfold prune2 at e
  obtain ⟨κ, hκ, e⟩ := ob_eq_some e
  obtain ⟨ν, hν, e⟩ := ob_eq_some e
  cases hν
  obtain ⟨o, ho, e⟩ := ob_eq_some e
  obtain ⟨o0, ho0, e⟩ := ob_eq_some e
  obtain ⟨_, hc, e⟩ := ob_eq_some e
  cases e
  obtain ⟨hc1, hc2⟩ := chk2 hc
  simp only [Bool.and_eq_true] at hc2
  obtain ⟨g1, g2, g3, g4⟩ := pick_eq ho ho0
  have hs0 : SLe P { t := t, o := o0, ks := κ, n := 0, sz := st.sz, u := Av.noU, g := st.g } { t := st.t, o := st.o, ks := st.ks, n := 0, sz := st.sz, u := Av.noU, g := st.g } :=
    SLe.of (fun i tv hl => ⟨okL_iff.1 (okBL_iff.1 hc1) tv (valsT_mem hl), tv, ht i tv hl, .refl _⟩)
      (fun k ob hl => ⟨allOk_lk hc2.1 hl, g1 ▸ lk_keys hl, ob, g3 k ob hl, .refl _⟩) (Nat.le_refl _) rfl rfl
  obtain ⟨S1, β1, h1⟩ := hs0 X β0 w0 S0 a w ⟨S, β, h.noU⟩
  obtain ⟨c1, c2, c3⟩ := canon2_spec κ
  obtain ⟨β2, h2⟩ := h1.renSt (σ := canon2 (news κ)) c3 c1 c2 (fun k hk => by rw [g1] at hk; exact hk)
  refine ⟨S1, β2, ?_⟩
  have : keysOf o = κ.map (canon2 (news κ)) := g4
  rw [this, g2]
  exact h2
theorem prune_sound {s : St} {live : List Nat} (e : prune st live = some s) (h : SimE P X β0 w0 S0 st a w) : SimE P X β0 w0 S0 s a w := by
  obtain ⟨S, β, h⟩ := h
  exact prune2_sound (fun i x hl => keepT_lk hl) e h
end
end Go.Av
end
section
set_option linter.unusedVariables false
set_option linter.unusedSimpArgs false
set_option linter.unusedSectionVars false
namespace Go.Av
section
variable [Known] {P : Program} {X : Nat → Prop} {β0 : Places} {w0 w w' : World} {S0 S S' : Stable} {st st' : St} {a : Act} {β β' : Places}
theorem SLe.objs {s1 s : St} (ht : s1.t = s.t) (hk : s1.ks = s.ks) (ho : ∀ k ob, lk k s1.o = some ob → ∃ x, lk k s.o = some x ∧ OLe x ob ∧ ∀ p, x.okO p → ob.okO p)
    (hn : s1.n ≤ s.n) (hz : s1.sz = s.sz) (hu : s1.u = s.u) (hg : s1.g = s.g := by rfl) : SLe P s1 s := by
  rintro X β0 w0 S0 a w ⟨S, β, h⟩
  refine SLe.of (fun i tv hl => ?_) (fun k ob hl => ?_) hn hz hu hg X β0 w0 S0 a w ⟨S, β, h⟩
  · rw [ht] at hl
    obtain ⟨v, _, _, h3⟩ := h.tmps i tv hl
    rw [hk]
    exact ⟨h3, tv, hl, .refl _⟩
  · obtain ⟨x, h1, h2, h3⟩ := ho k ob hl
    obtain ⟨_, g2, g3⟩ := h.objs k x h1
    rw [hk]
    exact ⟨h3 _ g2, g3, x, h1, h2⟩
theorem SLe.trans {s1 s2 s3 : St} (h : SLe P s1 s2) (k : SLe P s2 s3) : SLe P s1 s3 := fun X β0 w0 S0 a w hs => h X β0 w0 S0 a w (k X β0 w0 S0 a w hs)
theorem SLe.setN {s : St} {n m : Nat} (h : n ≤ m) : SLe P (setN s n) (setN s m) :=
  .objs rfl rfl (fun k ob hl => ⟨ob, hl, .refl _, fun _ h => h⟩) h rfl rfl
theorem OLe.any {A : Ann} {m : Nat} {es : List (List T)} : OLe (.arr A m es) (.arr .any m es) :=
  .arr (fun _ _ => trivial) (fun q h => by cases h) rfl (fun _ _ _ => rfl) (fun _ _ _ _ _ _ => .refl _) (fun t h => by cases h)
theorem OLe.ann {A A' : Ann} {m : Nat} {es : List (List T)} (h1 : ∀ x, A'.has x) (h0 : ∀ q, A' ≠ .tok q) (h2 : ∀ t, A'.tag = some t → A.tag = some t) : OLe (.arr A m es) (.arr A' m es) :=
  .arr (fun x _ => h1 x) (fun q h => absurd h (h0 q)) rfl (fun _ _ _ => rfl) (fun _ _ _ _ _ _ => .refl _) h2
theorem elAnn_has {el : TypeId} (x : Nat) : (elAnn P el).has x := by unfold elAnn; split <;> trivial
theorem elAnn_tok {el : TypeId} (q : Tok) : elAnn P el ≠ .tok q := by unfold elAnn; split <;> simp
theorem elAnn_tag {el t : TypeId} (h : (elAnn P el).tag = some t) : el = t := by
  unfold elAnn at h
  split at h
  · exact Option.some.inj h
  · cases h
theorem apAnn_has {el : TypeId} {A : Ann} (x : Nat) : (apAnn (elAnn P el) A).has x := by
  cases A with
  | nilA => exact elAnn_has x
  | u8 e =>
    unfold elAnn
    split
    · show Ann.has (if e = el then .u8 el else .any) x
      split <;> trivial
    · trivial
  | _ => trivial
theorem apAnn_tok {el : TypeId} {A : Ann} (q : Tok) : apAnn (elAnn P el) A ≠ .tok q := by
  cases A with
  | nilA => exact elAnn_tok q
  | u8 e =>
    unfold elAnn
    split
    · show (if e = el then Ann.u8 el else .any) ≠ _
      split <;> simp
    · simp [apAnn]
  | _ => simp [apAnn]
theorem apAnn_tag {el t : TypeId} {A : Ann} (h : (apAnn (elAnn P el) A).tag = some t) : apTag el A = some t := by
  cases A with
  | nilA => rw [elAnn_tag (P := P) h]; rfl
  | u8 e =>
    unfold elAnn at h
    split at h
    · have h : Ann.tag (if e = el then .u8 el else .any) = some t := h
      split at h
      · rename_i he
        subst he
        show (if some e = some e then some e else none) = some t
        rw [if_pos rfl]
        exact h
      · cases h
    · cases h
  | _ => cases h
theorem onSt_same {s : St} {x : Option St} (h : x = some s) : onSt (SLe P s) x := by rw [h]; exact SLe.refl s
theorem chk_and {c d : Bool} {u : Unit} (h : chk (c && d) = some u) : c = true ∧ d = true := chk2 h
theorem mkArr_le {d m blk : Nat} {es : List (List T)} {s : St} {el : TypeId} (h : mkArr st d m es (elAnn P el) = some s) (hb : st.n ≤ blk) : onSt (SLe P s) (newArr st d blk m es (blk + 1) el) := by
  unfold mkArr at h
  obtain ⟨_, h1, h⟩ := ob_eq_some h
  cases h
  unfold newArr
  rw [h1]
  refine SLe.objs rfl rfl (fun k ob hl => ?_) (by show st.n ≤ blk + 1; omega) rfl rfl
  by_cases hk : k = kOf d
  · subst hk; rw [lk_cons_eq] at hl; cases hl; exact ⟨_, lk_cons_eq _ _ _, .ann elAnn_has elAnn_tok (fun t h => by rw [← elAnn_tag (P := P) h]; rfl), fun _ h => h⟩
  · rw [lk_cons_ne _ _ hk] at hl; exact ⟨ob, by rw [lk_cons_ne _ _ hk]; exact hl, .refl _, fun _ h => h⟩
theorem mkArrB_le {d blk : Nat} {es : List (List T)} {s : St} (h : mkArr st d 1 es .any = some s) (hb : st.n ≤ blk) : onSt (SLe P s) (newArrB st d blk es (blk + 1)) := by
  unfold mkArr at h
  obtain ⟨_, h1, h⟩ := ob_eq_some h
  cases h
  unfold newArrB
  rw [h1]
  refine SLe.objs rfl rfl (fun k ob hl => ?_) (by show st.n ≤ blk + 1; omega) rfl rfl
  by_cases hk : k = kOf d
  · subst hk; rw [lk_cons_eq] at hl; cases hl; exact ⟨_, lk_cons_eq _ _ _, .any, fun _ h => h⟩
  · rw [lk_cons_ne _ _ hk] at hl; exact ⟨ob, by rw [lk_cons_ne _ _ hk]; exact hl, .refl _, fun _ h => h⟩
theorem apSt_le {d k m blk n : Nat} {es : List (List T)} {s : St} {el : TypeId} {A : Ann} (h : apSt st d k m es (apAnn (elAnn P el) A) = some s) (hb : st.n ≤ n) : onSt (SLe P s) (apState st d k blk m es n (apTag el A)) := by
  unfold apSt at h
  obtain ⟨_, h1, h⟩ := ob_eq_some h
  cases h
  unfold apState
  rw [h1]
  refine SLe.objs rfl rfl (fun j ob hl => ?_) hb rfl rfl
  by_cases hk : j = k
  · subst hk; rw [lk_cons_eq] at hl; cases hl; exact ⟨_, lk_cons_eq _ _ _, .ann apAnn_has apAnn_tok (fun t h => apAnn_tag h), fun _ h => h⟩
  · rw [lk_cons_ne _ _ hk] at hl; exact ⟨ob, by rw [lk_cons_ne _ _ hk]; exact hl, .refl _, fun _ h => h⟩
theorem eop_aop {o : Oper} {op : Op} {s : St} (e : eop P st o op = some s) : aop P (SLe P s) st o op := by
  have ll : lop P st o = some s → onSt (SLe P s) (lop P st o) := fun h => onSt_same h
  cases op with
  | store t x v => exact onSt_same e
  | call c =>
    simp only [eop] at e
    simp only [aop]
    cases hc : c.callee with
    | value f => rw [hc] at e; cases e
    | invoke r m => rw [hc] at e; exact ll e
    | builtin b =>
      rw [hc] at e
      by_cases hb : b = .append
      · subst hb
        simp only at e ⊢
        cases hty : c.argTypes.toList with
        | nil => rw [hty] at e; cases e
        | cons t l =>
          cases l with
          | nil => rw [hty] at e; cases e
          | cons u l =>
            cases l with
            | cons _ _ => rw [hty] at e; cases e
            | nil =>
              cases hax : c.args.toList with
              | nil => rw [hty, hax] at e; cases e
              | cons sx l =>
                cases l with
                | nil => rw [hty, hax] at e; cases e
                | cons x l =>
                  cases l with
                  | cons _ _ => rw [hty, hax] at e; cases e
                  | nil =>
                    rw [hty, hax] at e
                    simp only at e ⊢
                    unfold eappend at e
                    obtain ⟨d, h1, e⟩ := ob_eq_some e
                    obtain ⟨el, h2, e⟩ := ob_eq_some e
                    obtain ⟨z, h3, e⟩ := ob_eq_some e
                    obtain ⟨⟨k, A, es⟩, h4, e⟩ := ob_eq_some e
                    obtain ⟨new, h5, e⟩ := ob_eq_some e
                    obtain ⟨_, h6, e⟩ := ob_eq_some e
                    obtain ⟨_, h7, e⟩ := ob_eq_some e
                    obtain ⟨c1, c2⟩ := chk_and h6
                    simp only [Bool.and_eq_true, beq_iff_eq, decide_eq_true_eq, Bool.or_eq_true, List.all_eq_true] at c1 c2
                    obtain ⟨c5, c6⟩ := of_decide_eq_true (chk_eq_some h7)
                    exact ⟨d, el, k, A, es, new, h1, h2, c2.1, c1.2, by rw [h3]; simp [c1.1], h4, h5, c2.2, c5, c6, fun blk n _ _ hn => apSt_le e hn⟩
      · by_cases hb2 : b = .unsafeString
        · subst hb2
          simp only at e ⊢
          cases hty : c.argTypes.toList with
          | nil => rw [hty] at e; cases e
          | cons t l =>
            cases l with
            | nil => rw [hty] at e; cases e
            | cons u l =>
              cases l with
              | cons _ _ => rw [hty] at e; cases e
              | nil =>
                cases hax : c.args.toList with
                | nil => rw [hty, hax] at e; cases e
                | cons sx l =>
                  cases l with
                  | nil => rw [hty, hax] at e; cases e
                  | cons x l =>
                    cases l with
                    | cons _ _ => rw [hty, hax] at e; cases e
                    | nil =>
                      rw [hty, hax] at e
                      obtain ⟨_, h0, e⟩ := ob_eq_some e
                      obtain ⟨⟨k, es⟩, h1, e⟩ := ob_eq_some e
                      obtain ⟨y, h2, e⟩ := ob_eq_some e
                      have := strOf_some h2
                      exact ⟨chk_eq_some h0, k, y, by rw [h1, show es = bytesT y from this], onSt_same e⟩
        · cases b <;> first | exact absurd rfl hb | exact absurd rfl hb2 | exact ll e
  | convert src d x =>
    simp only [eop] at e
    simp only [aop]
    cases hti : tyInt P d with
    | some k => rw [hti] at e; exact ll e
    | none =>
      rw [hti] at e
      simp only at e ⊢
      cases hst : tyStr P d with
      | true =>
        rw [hst] at e
        simp only at e ⊢
        unfold estr at e
        obtain ⟨_, h1, e⟩ := ob_eq_some e
        obtain ⟨c1, c2⟩ := chk_and h1
        have c2 := of_decide_eq_true c2
        obtain ⟨es, h2, e2⟩ := ob_eq_some e
        obtain ⟨x', h3, e3⟩ := ob_eq_some e2
        clear e e2
        have h3' := strOf_some h3
        subst h3'
        generalize evc st x = tv at h2
        cases tv with
        | d t =>
          cases t with
          | sl A es => cases h2; exact ⟨c1, c2, x', rfl, onSt_same e3⟩
          | _ => cases h2
        | nl =>
          have hx : x' = ByteArray.empty := by
            simp only [strEs, Option.some.injEq] at h2
            exact bytesT_inj (h2.symm.trans rfl)
          subst hx
          exact ⟨c1, c2, onSt_same e3⟩
        | own k =>
          obtain ⟨oo, h4, h5⟩ := ob_eq_some h2
          obtain ⟨⟨m, es⟩, h6, h7⟩ := ob_eq_some h5
          cases h7
          exact ⟨c1, c2, oo, m, x', h4, h6, onSt_same e3⟩
        | _ => cases h2
      | false =>
        rw [hst] at e
        simp only at e ⊢
        cases hip : isPtr (evc st x) with
        | true => rw [hip] at e; exact ll e
        | false =>
        rw [hip] at e
        simp only at e ⊢
        clear hip
        generalize evc st x = tv at e
        cases tv with
        | d t =>
          cases t with
          | s x =>
            obtain ⟨_, h1, e⟩ := ob_eq_some e
            obtain ⟨c1, c2⟩ := chk_and h1
            cases hw : wide o.dst with
            | true =>
              rw [hw, cond_true] at e
              obtain ⟨dd, h2, e⟩ := ob_eq_some e
              obtain ⟨_, h3, e⟩ := ob_eq_some e
              exact ⟨c1, of_decide_eq_true c2, .inr ⟨of_decide_eq_true (chk_eq_some h3), dd, h2, fun blk hb => mkArrB_le e hb⟩⟩
            | false =>
            rw [hw, cond_false] at e
            refine ⟨c1, of_decide_eq_true c2, .inl fun blk hb => ?_⟩
            cases hd : o.dst with
            | none =>
              rw [hd] at e
              cases e
              exact SLe.objs rfl rfl (fun k ob hl => ⟨ob, hl, .refl _, fun _ h => h⟩) (by show st.n ≤ blk + 1; omega) rfl rfl
            | some d =>
              rw [hd] at e
              obtain ⟨_, h2, e⟩ := ob_eq_some e
              cases e
              show onSt _ (ob (chk (decide (d < st.sz))) fun _ => some _)
              rw [h2]
              show SLe P _ _
              rintro X β0 w0 S0 a w ⟨S, β, h⟩
              refine ⟨S, β, h.kn, h.dfr, h.size, ?_, h.objs, h.own, h.inj, h.sep, h.bnd, h.sub, h.new, h.below, Nat.le_trans (by show st.n ≤ blk + 1; omega) h.n, h.fix, h.gh, h.tk⟩
              intro i tv hl
              by_cases hi : i = d
              · subst hi
                rw [lk_cons_eq] at hl; cases hl
                obtain ⟨v, g1, g2, g3⟩ := h.tmps i _ (lk_cons_eq _ _ _)
                exact ⟨v, g1, .d ((rv_d g2).weaken (TLe.sl (A' := .any) (fun _ _ => trivial) (fun q h => by cases h) rfl (fun _ _ _ => rfl) (fun _ _ _ _ _ _ => .refl _))), trivial⟩
              · rw [lk_cons_ne _ _ hi] at hl
                exact h.tmps i tv (by rw [lk_cons_ne _ _ hi]; exact hl)
          | _ => cases e
        | _ => cases e
  | makeSlice t l c =>
    simp only [eop] at e
    unfold emake at e
    obtain ⟨d, h1, e⟩ := ob_eq_some e
    obtain ⟨el, h2, e⟩ := ob_eq_some e
    obtain ⟨z, h3, e⟩ := ob_eq_some e
    obtain ⟨n, h4, e⟩ := ob_eq_some e
    obtain ⟨n', h5, e⟩ := ob_eq_some e
    obtain ⟨_, h6, e⟩ := ob_eq_some e
    obtain ⟨_, h7, e7⟩ := ob_eq_some e
    obtain ⟨c1, c2⟩ := chk_and h6
    obtain ⟨⟨c0, c3⟩, c4, c5⟩ := of_decide_eq_true (chk_eq_some h7)
    simp only [beq_iff_eq, decide_eq_true_eq] at c1 c2
    have en : ((n.toNat : Nat) : Int) = n := Int.toNat_of_nonneg c3
    exact ⟨d, el, z, n.toNat, h1, h2, h3, c1, c2, by rw [en]; exact h4, by rw [en, c0]; exact h5, c4, c5, fun blk hb => mkArr_le e7 hb⟩
  | buildSlice t len parts =>
    simp only [eop] at e
    unfold ebuild at e
    obtain ⟨d, h1, e⟩ := ob_eq_some e
    obtain ⟨el, h2, e⟩ := ob_eq_some e
    obtain ⟨z, h3, e⟩ := ob_eq_some e
    obtain ⟨es, h4, e⟩ := ob_eq_some e
    obtain ⟨_, h6, e⟩ := ob_eq_some e
    obtain ⟨c1, c2⟩ := chk_and h6
    simp only [beq_iff_eq, decide_eq_true_eq, Bool.and_eq_true] at c1 c2
    exact ⟨d, el, z, es, h1, h2, h3, c1, c2.1, c2.2, h4, fun blk hb => mkArr_le e (by rw [(frz_n _ _).1]; exact hb)⟩
  | slice t x lo hi mx =>
    cases mx with
    | none =>
      simp only [eop] at e
      simp only [aop]
      generalize hx : evc st x = tv at e
      cases tv with
      | own k =>
        simp only [eslice] at e
        have old : ∀ lo hi, eslice2 P st o t lo hi k = some s → asliceOwn P (SLe P s) st o.dst t lo hi k := by
          intro lo hi e
          unfold eslice2 at e
          obtain ⟨ob', h1, e⟩ := ob_eq_some e
          cases ob' with
          | fz A m es => exact ⟨A, m, es, h1, onSt_same e⟩
          | _ => cases e
        split at e
        · rename_i y
          obtain ⟨ob', h1, e⟩ := ob_eq_some e
          cases ob' with
          | arr A m es =>
            simp only [eslice1] at e
            by_cases h40 : 40 ≤ k
            case neg => rw [decide_eq_false h40, cond_false] at e; exact .inl (old _ _ e)
            rw [decide_eq_true h40, cond_true] at e
            obtain ⟨d, hd, e⟩ := ob_eq_some e
            obtain ⟨h, hh, e⟩ := ob_eq_some e
            exact .inr ⟨y, rfl, rfl, A, m, es, d, h, hd, h1, hh, onSt_same e⟩
          | fz A m es => exact .inl (old _ _ e)
          | box cs ty => cases e
        · exact .inl (old _ _ e)
      | d tt => exact ll e
      | _ => cases e
    | some m =>
      simp only [eop] at e
      simp only [aop]
      unfold ezero at e
      obtain ⟨el, h1, e⟩ := ob_eq_some e
      obtain ⟨h, h2, e⟩ := ob_eq_some e
      obtain ⟨m', h3, e⟩ := ob_eq_some e
      obtain ⟨_, h4, e4⟩ := ob_eq_some e
      obtain ⟨c1, c2⟩ := chk_and h4
      simp only [Bool.and_eq_true, decide_eq_true_eq] at c1 c2
      obtain ⟨c3, c4, c5, c6⟩ := c2
      refine ⟨by rw [h1]; simp [c1], by simpa using c3, by rw [h2, c5], by rw [h3, c6], ?_, onSt_same e4⟩
      revert c4
      generalize evc st x = tv
      intro c4
      cases tv with
      | d t => cases t <;> first | trivial | cases c4
      | nl => trivial
      | own k => trivial
      | _ => cases c4
  | _ => exact ll e
theorem SimE.le {s1 s : St} (hl : SLe P s1 s) (h : SimE P X β0 w0 S0 s a w) : SimE P X β0 w0 S0 s1 a w := hl X β0 w0 S0 a w h
theorem mapT_no {g : Option (Nat × Bool)} : ∀ (r : TV), r.mapT (tkF false g) = r := by
  have key : ∀ n : Nat, ∀ r : TV, SizeOf.sizeOf r < n → r.mapT (tkF false g) = r := by
    intro n
    induction n with
    | zero => exact fun t h => absurd h (Nat.not_lt_zero _)
    | succ n ih =>
      intro r h
      have many : ∀ cs : List TV, (∀ y ∈ cs, SizeOf.sizeOf y < n) → cs.map (TV.mapT (tkF false g)) = cs := fun cs h => by
        conv => rhs; rw [← List.map_id cs]
        exact List.map_congr_left fun y hy => ih y (h y hy)
      cases r with
      | agg cs => rw [TV.mapT, mapTL_eq, many cs (fun y hy => by have := List.sizeOf_lt_of_mem hy; simp at h; omega)]
      | tup cs => rw [TV.mapT, mapTL_eq, many cs (fun y hy => by have := List.sizeOf_lt_of_mem hy; simp at h; omega)]
      | _ => rfl
  exact fun r => key _ r (Nat.lt_succ_self _)
theorem mapO_no {g : Option (Nat × Bool)} : ∀ (o : Objs), mapO (tkF false g) o = o
  | [] => rfl
  | (k, x) :: o => by
    have hid : ∀ l : List (List T), l.map (·.map (tkF false g)) = l := fun l => by
      have : tkF false g = id := funext fun _ => rfl
      rw [this]; simp
    simp only [mapO, mapO_no o]
    cases x <;> simp only [Obj.mapT, hid]
theorem plain_bare {f : Nat → Nat} : ∀ (x : TV), plainTV (eraseTV x) = true → bareTV ((eraseTV x).ren f) := by
  have key : ∀ n : Nat, ∀ r : TV, SizeOf.sizeOf r < n → plainTV (eraseTV r) = true → bareTV ((eraseTV r).ren f) := by
    intro n
    induction n with
    | zero => exact fun t h => absurd h (Nat.not_lt_zero _)
    | succ n ih =>
      intro r h hp
      cases r with
      | d t => exact bareT_erase t
      | agg cs =>
        have many : ∀ cs : List TV, (∀ y ∈ cs, SizeOf.sizeOf y < n) → plainL (eraseL cs) = true → bareL (renL f (eraseL cs)) := by
          intro cs
          induction cs with
          | nil => exact fun _ _ => trivial
          | cons y ys ihy =>
            intro h1 h2
            simp only [eraseL, plainL, Bool.and_eq_true] at h2
            exact ⟨ih y (h1 y (by simp)) h2.1, ihy (fun z hz => h1 z (List.mem_cons_of_mem _ hz)) h2.2⟩
        exact many cs (fun y hy => by have := List.sizeOf_lt_of_mem hy; simp at h; omega) hp
      | unk => trivial
      | nl => trivial
      | _ => cases hp
  exact fun x => key _ x (Nat.lt_succ_self _)
theorem plainL_bare {f : Nat → Nat} : ∀ {l : List TV}, plainL (eraseL l) = true → bareL (renL f (eraseL l))
  | [], _ => trivial
  | x :: l, h => by
    simp only [eraseL, plainL, Bool.and_eq_true] at h
    exact ⟨plain_bare x h.1, plainL_bare h.2⟩
theorem prep1_call {g : FuncId} {z : Bool} {fk : List Nat} {args0 args cap low : List TV} {p : Prep} {s : St} {dst : Option Nat} {r : TV × Objs}
    (e : prep1 (Av.frz st fk) g z fk low = some p) (hbare : z = true → ∃ l, low = eraseL l) (hargs : args0 = args ++ cap) (hlen : low.length = args0.length)
    (hle : ∀ i (hi : i < args0.length) (hj : i < low.length), Le P (Av.frz st fk) args0[i] low[i])
    (hp : Plainly P g) (hac : ACz p.z P p.g p.ins p.args fun _ _ r' o' => r' = r.1 ∧ o' = r.2) (hpost : post st dst p r = some s) :
    p.g = g ∧ acall P (SLe P s) st dst (.clo g cap) args := by
  have hzz : p.z = z := by
    unfold prep1 at e
    obtain ⟨_, _, e⟩ := ob_eq_some e
    obtain ⟨_, _, e⟩ := ob_eq_some e
    obtain ⟨_, _, e⟩ := ob_eq_some e
    obtain ⟨_, _, e⟩ := ob_eq_some e
    cases e; rfl
  unfold prep1 at e
  obtain ⟨κ, hκ, e⟩ := ob_eq_some e
  clear hκ
  obtain ⟨ins, h1, e⟩ := ob_eq_some e
  obtain ⟨ins0, h2, e⟩ := ob_eq_some e
  obtain ⟨_, h3, e⟩ := ob_eq_some e
  cases e
  obtain ⟨c1, c2⟩ := chk_and h3
  simp only [Bool.and_eq_true, decide_eq_true_eq] at c2
  obtain ⟨c2, c3, c4, cz⟩ := c2
  obtain ⟨g1, g2, g3, g4⟩ := pick_eq h1 h2
  refine ⟨rfl, hp, z, fk, ins, nth κ, renL (fun k => idx k 0 κ) low, _, hac, ?_, ?_, ?_, ?_, ?_, ?_, ?_, ?_⟩
  · rintro rfl
    obtain ⟨l', rfl⟩ := hbare rfl
    simp only [zOk, Bool.and_eq_true] at cz
    refine ⟨?_, plainL_bare cz.2⟩
    have hκ : κ = [] := by have := cz.1; cases κ with | nil => rfl | cons _ _ => cases this
    have : keysOf ins = [] := by rw [g4, hκ]; rfl
    cases ins with
    | nil => rfl
    | cons _ _ => cases this
  · rw [renL_len, ← hargs, hlen]
  · subst hargs
    intro i hi hj
    rw [renL_get]
    have hok : (low[i]'(by rw [renL_len] at hj; exact hj)).ok (fun k => nth κ (idx k 0 κ) = k) :=
      TV.ok_mono (fun k hk => (idx_nth hk).2) (okL_get (okBL_iff.1 c1) i _)
    rw [ren_back hok]
    exact hle i hi _
  · rw [okL_iff]
    intro x hx
    rw [renL_eq] at hx
    obtain ⟨y, hy, rfl⟩ := List.mem_map.1 hx
    exact ren_ok (p := (· ∈ κ)) (fun k hk => by rw [g4]; exact List.mem_map_of_mem hk) (okL_iff.1 (okBL_iff.1 c1) y hy)
  · intro k hk
    rw [g4] at hk
    obtain ⟨j, hj, rfl⟩ := List.mem_map.1 hk
    have := (idx_nth hj).1
    omega
  · intro k ob hk
    rw [g2] at hk
    obtain ⟨j, y, rfl, h5, rfl⟩ := renO_lk (fun k k' hk hk' e => by rw [g1] at hk hk'; exact idx_inj hk hk' e) hk
    have hj : j ∈ κ := by rw [← g1]; exact lk_keys h5
    refine ⟨?_, ?_⟩
    · rw [(idx_nth hj).2]
      have hok : y.okO (fun k => nth κ (idx k 0 κ) = k) := okO_mono (fun k hk => (idx_nth hk).2) (allOk_lk c2 h5)
      rw [oren_back hok]
      exact g3 j y h5
    · exact okO_ren (p := (· ∈ κ)) (fun k hk => by rw [g4]; exact List.mem_map_of_mem hk) (allOk_lk c2 h5)
  · intro k k' hk hk' e
    rw [g4] at hk hk'
    obtain ⟨j, hj, rfl⟩ := List.mem_map.1 hk
    obtain ⟨j', hj', rfl⟩ := List.mem_map.1 hk'
    rw [(idx_nth hj).2, (idx_nth hj').2] at e
    rw [e]
  · rintro n1 n2 r' outs hn1 hn2 ⟨rfl, rfl⟩ hro
    unfold post at hpost
    obtain ⟨_, h6, hpost⟩ := ob_eq_some hpost
    obtain ⟨c5, c6⟩ := chk_and h6
    have fin : ∀ (s' : St) (x : TV), s'.n = 0 → put s' x dst = some s → onSt (SLe P s) (put { s' with n := n2 } x dst) := by
      intro s' x hn hput
      cases dst with
      | none =>
        cases hput
        exact SLe.objs rfl rfl (fun k ob hl => ⟨ob, hl, .refl _, fun _ h => h⟩) (by rw [hn]; exact Nat.zero_le _) rfl rfl
      | some d =>
        obtain ⟨_, h7, hput⟩ := ob_eq_some hput
        cases hput
        have h7 : chk (decide (d < s'.sz)) = some _ := h7
        show onSt _ (ob (chk (decide (d < s'.sz))) fun _ => some _)
        rw [h7]
        show SLe P _ _
        exact SLe.objs rfl rfl (fun k ob hl => ⟨ob, hl, .refl _, fun _ h => h⟩) (by show s'.n ≤ n2; rw [hn]; exact Nat.zero_le _) rfl rfl
    clear hzz
    cases z with
    | false =>
      refine ⟨fun h => (by cases h), c5, ?_⟩
      have hpost : put (merge (Av.frz st fk) ins (nth κ) dst r.2 0) (r.1.ren (rk (nth κ) dst)) dst = some s := hpost
      rw [mapT_no, mapO_no]
      exact fin _ _ rfl hpost
    | true =>
      have hpost : (ob (chk (flatTV r.1 && arrO r.2)) fun _ =>
        put (merge (bumpZ true (Av.frz st fk)) ins (nth κ) dst (mapO (tkF true (Av.frz st fk).g) r.2) 0) ((r.1.mapT (tkF true (Av.frz st fk).g)).ren (rk (nth κ) dst)) dst) = some s := hpost
      obtain ⟨_, h7, hpost⟩ := ob_eq_some hpost
      refine ⟨fun _ => chk_and h7, c5, ?_⟩
      exact fin _ _ rfl hpost
theorem prep_call {C : Cfg} {f : TV} {args : List TV} {p : Prep} {s : St} {dst : Option Nat} {r : TV × Objs}
    (e : prep C st f args = some p) (hp : Plainly C.P p.g) (hac : ACz (C.Z p.g) C.P p.g p.ins p.args fun _ _ r' o' => r' = r.1 ∧ o' = r.2) (hpost : post st dst p r = some s) :
    acall C.P (SLe C.P s) st dst f args := by
  cases f with
  | clo g cap =>
    simp only [prep] at e
    have hgz : ∀ {st' : St} {fk : List Nat} {l : List TV}, prep1 st' g (C.Z g) fk l = some p → p.g = g ∧ p.z = C.Z g := by
      intro st' fk l e'
      unfold prep1 at e'
      obtain ⟨_, _, e'⟩ := ob_eq_some e'
      obtain ⟨_, _, e'⟩ := ob_eq_some e'
      obtain ⟨_, _, e'⟩ := ob_eq_some e'
      obtain ⟨_, _, e'⟩ := ob_eq_some e'
      cases e'; exact ⟨rfl, rfl⟩
    have hbare : ∀ l : List TV, C.Z g = true → ∃ l', erz st.g (C.Z g) l = eraseL l' := by
      intro l h
      rw [h]
      cases st.g <;> exact ⟨_, rfl⟩
    cases hx : C.Y g with
    | true =>
      rw [hx] at e
      have e' : prep1 (Av.frz st []) g (C.Z g) [] (erz st.g (C.Z g) (args ++ cap)) = some p := e
      obtain ⟨hg, hz⟩ := hgz e'
      obtain ⟨l1, l2⟩ := erz_le (P := C.P) (st := Av.frz st []) (g := st.g) (z := C.Z g) (xs := args ++ cap) (ys := args ++ cap) rfl (fun i hi hj => .same _)
      exact (prep1_call e' (hbare _) rfl l1 l2 (hg ▸ hp) (by rw [hz, ← hg]; exact hac) hpost).2
    | false =>
      rw [hx] at e
      have e' : prep1 (Av.frz st (ownKeysL (args ++ cap))) g (C.Z g) (ownKeysL (args ++ cap)) (erz st.g (C.Z g) (lowL st.o (args ++ cap))) = some p := e
      obtain ⟨hg, hz⟩ := hgz e'
      obtain ⟨l1, l2⟩ := lowL_le (P := C.P) (st := st) (fk := ownKeysL (args ++ cap)) (cs := args ++ cap) (fun k hk => hk)
      obtain ⟨l3, l4⟩ := erz_le (P := C.P) (g := st.g) (z := C.Z g) l1 l2
      exact (prep1_call e' (hbare _) rfl l3 l4 (hg ▸ hp) (by rw [hz, ← hg]; exact hac) hpost).2
  | _ => cases e
end
end Go.Av
end
section
set_option linter.unusedVariables false
set_option linter.unusedSimpArgs false
set_option linter.unusedSectionVars false
namespace Go.Av
section
variable [Known] {P : Program} {X : Nat → Prop} {β0 : Places} {w0 w w' : World} {S0 S S' : Stable} {st st' : St} {a : Act} {β β' : Places}
theorem Sim.addN (h : Sim P X β0 w0 S0 st a w S β) {k m : Nat} (hk : k ∉ st.ks) (h40 : 40 ≤ k) (hm : 0 < m) :
    ∃ β', Sim P X β0 w0 S0 { t := st.t, o := (k, .arr .any m []) :: st.o, ks := k :: st.ks, n := st.n, sz := st.sz, u := st.u, g := st.g } a w S β' ∧ (∀ a0, RV P w S β' (.own k) (.slice a0 0 0)) := by
  let pl : Pl := { live := false, blk := 0, len := 0, cap := 0, m := m }
  have ne : ∀ j, j ∈ st.ks → j ≠ k := fun j hj e => hk (e ▸ hj)
  have keep : ∀ tv v, RV P w S β tv v → tv.ok (· ∈ st.ks) → RV P w S (updP β k pl) tv v := fun tv v hr ho =>
    hr.keeps (.refl w S) (TV.ok_mono (fun j hj => updP_ne β pl (ne j hj)) ho)
  have old : ∀ j ob, lk j ((k, Obj.arr .any m []) :: st.o) = some ob → (j = k ∧ ob = .arr .any m []) ∨ (j ≠ k ∧ lk j st.o = some ob) := by
    intro j ob hl
    by_cases hj : j = k
    · subst hj; rw [lk_cons_eq] at hl; cases hl; exact .inl ⟨rfl, rfl⟩
    · rw [lk_cons_ne _ _ hj] at hl; exact .inr ⟨hj, hl⟩
  have nofoot : ∀ x, ¬ foot (updP β k pl k) x := by
    intro x hx; rw [updP_same] at hx; cases hx.1
  refine ⟨updP β k pl, ⟨h.kn, h.dfr, h.size, ?_, ?_, ?_, ?_, ?_, h.bnd, h.sub, h.new, h.below, h.n, ?_, ?_, h.tk⟩, ?_⟩
  · intro i tv hl
    obtain ⟨v, hv, hr, ho⟩ := h.tmps i tv hl
    exact ⟨v, hv, keep tv v hr ho, TV.ok_mono (fun j hj => List.mem_cons_of_mem _ hj) ho⟩
  · intro j ob hl
    rcases old j ob hl with ⟨rfl, rfl⟩ | ⟨hj, hl⟩
    · exact ⟨.arrN (by rw [updP_same]) (by rw [updP_same]) hm (by rw [updP_same]) (by rw [updP_same]), trivial, by simp⟩
    · obtain ⟨g1, g2, g3⟩ := h.objs j ob hl
      exact ⟨g1.keeps (.refl w S) (fun _ => rfl) (updP_ne β pl hj) (okO_mono (fun i hi => updP_ne β pl (ne i hi)) g2), okO_mono (fun i hi => List.mem_cons_of_mem _ hi) g2, List.mem_cons_of_mem _ g3⟩
  · intro j ob hl x hx
    rcases old j ob hl with ⟨rfl, rfl⟩ | ⟨hj, hl⟩
    · exact absurd hx (nofoot x)
    · rw [updP_ne β pl hj] at hx; exact h.own j ob hl x hx
  · intro j j' ob ob' hl hl' hne x hx hx'
    rcases old j ob hl with ⟨rfl, rfl⟩ | ⟨hj, hl⟩
    · exact nofoot x hx
    · rcases old j' ob' hl' with ⟨rfl, rfl⟩ | ⟨hj', hl'⟩
      · exact nofoot x hx'
      · rw [updP_ne β pl hj] at hx; rw [updP_ne β pl hj'] at hx'; exact h.inj j j' ob ob' hl hl' hne x hx hx'
  · intro j ob hl hw x hx
    rcases old j ob hl with ⟨rfl, rfl⟩ | ⟨hj, hl⟩
    · exact absurd hx (nofoot x)
    · rw [updP_ne β pl hj] at hx; exact h.sep j ob hl hw x hx
  · intro j hj; rw [updP_ne β pl (by omega)]; exact h.fix j hj
  · intro b o hb
    obtain ⟨a1, a2, a3, a4⟩ := h.gh b o hb
    refine ⟨a1, a2, fun j ob hl hx => ?_, a4⟩
    rcases old j ob hl with ⟨rfl, rfl⟩ | ⟨hj, hl⟩
    · exact nofoot b hx
    · rw [updP_ne β pl hj] at hx; exact a3 j ob hl hx
  · intro a0
    have := RV.own (P := P) (w := w) (S := S) (β := updP β k pl) k a0 (by rw [updP_same]; exact fun e => by cases e)
    rwa [updP_same] at this
theorem rv_nl {v : Value} (h : RV P w S β .nl v) : ∃ a0, v = .slice a0 0 0 := by
  cases h with | nl a0 => exact ⟨a0, rfl⟩
theorem asArr_sound {s : St} {k sl off m : Nat} (e : asArr st k sl off m = some s) (h : SimE P X β0 w0 S0 st a w) : SimE P X β0 w0 S0 s a w := by
  unfold asArr at e
  split at e
  · rename_i hl
    obtain ⟨_, h1, e⟩ := ob_eq_some e
    cases e
    obtain ⟨c1, c2⟩ := chk_and h1
    simp only [Bool.and_eq_true, decide_eq_true_eq, Bool.not_eq_true'] at c1 c2
    have hk : k ∉ st.ks := fun hh => by rw [hasKey_iff.2 hh] at c1; cases c1
    obtain ⟨S, β, h⟩ := h
    obtain ⟨β', h2, hnl⟩ := h.addN hk c2.2 c2.1
    obtain ⟨v, hv, hr, ho⟩ := h.tmps sl .nl hl
    refine ⟨S, β', h2.kn, h2.dfr, h2.size, ?_, h2.objs, h2.own, h2.inj, h2.sep, h2.bnd, h2.sub, h2.new, h2.below, h2.n, h2.fix, h2.gh, h2.tk⟩
    intro i tv hi
    by_cases his : i = sl
    · subst his
      rw [lk_cons_eq] at hi; cases hi
      exact ⟨v, hv, (by cases hr with | nl a0 => exact hnl a0), by simp [TV.ok]⟩
    · rw [lk_cons_ne _ _ his] at hi; exact h2.tmps i tv hi
  · rename_i b p hl
    split at e
    · rename_i cs ty hb
      split at e
      · rename_i hc
        obtain ⟨_, h1, e⟩ := ob_eq_some e
        cases e
        obtain ⟨c1, c2⟩ := chk_and h1
        simp only [Bool.and_eq_true, decide_eq_true_eq, Bool.not_eq_true'] at c1 c2
        have hk : k ∉ st.ks := fun hh => by rw [hasKey_iff.2 hh] at c1; cases c1
        obtain ⟨S, β, h⟩ := h
        obtain ⟨β', h2, hnl⟩ := h.addN hk c2.2 c2.1
        have hbk : b ≠ k := fun e => hk (e ▸ (h.objs b _ hb).2.2)
        have hb2 : lk b ((k, Obj.arr .any m []) :: st.o) = some (.box cs ty) := by rw [lk_cons_ne _ _ hbk]; exact hb
        obtain ⟨ov2, ok1', ok2'⟩ := h2.objs b _ hb2
        have old : ∀ j ob, lk j ((b, Obj.box (cs.set (p + off) (.own k)) ty) :: (k, Obj.arr .any m []) :: st.o) = some ob → (j = b ∧ ob = .box (cs.set (p + off) (.own k)) ty) ∨ (j ≠ b ∧ lk j ((k, Obj.arr .any m []) :: st.o) = some ob) := by
          intro j ob hl
          by_cases hj : j = b
          · subst hj; rw [lk_cons_eq] at hl; cases hl; exact .inl ⟨rfl, rfl⟩
          · rw [lk_cons_ne _ _ hj] at hl; exact .inr ⟨hj, hl⟩
        have bx : ∀ j ob, lk j ((b, Obj.box (cs.set (p + off) (.own k)) ty) :: (k, Obj.arr .any m []) :: st.o) = some ob → ∃ ob0, lk j ((k, Obj.arr .any m []) :: st.o) = some ob0 ∧ ob0.writable = ob.writable := by
          intro j ob hl
          rcases old j ob hl with ⟨rfl, rfl⟩ | ⟨hj, hl⟩
          · exact ⟨_, hb2, rfl⟩
          · exact ⟨_, hl, rfl⟩
        refine ⟨S, β', h2.kn, h2.dfr, h2.size, h2.tmps, ?_, ?_, ?_, ?_, h2.bnd, h2.sub, h2.new, h2.below, h2.n, h2.fix, ?_, h2.tk⟩
        · intro j ob hl
          rcases old j ob hl with ⟨rfl, rfl⟩ | ⟨hj, hl⟩
          · refine ⟨?_, ?_, ok2'⟩
            · cases ov2 with
              | box hv hbb hlen hr ht =>
                refine .box hv hbb (by simpa using hlen) (fun i hi hj => ?_) ht
                rw [List.getElem_set]
                split
                · rename_i hpi
                  subst hpi
                  have hi' : p + off < cs.length := by simpa using hi
                  have := hr (p + off) hi' hj
                  rw [show cs[p + off] = TV.nl from (List.getElem?_eq_some_iff.1 hc).2] at this
                  obtain ⟨a0, e0⟩ := rv_nl this
                  rw [e0]
                  exact hnl a0
                · exact hr i (by simpa using hi) hj
            · show okL _ _
              rw [okL_iff]
              intro x hx
              rcases List.mem_or_eq_of_mem_set hx with hx | hx
              · exact okL_iff.1 (show okL _ _ from ok1') x hx
              · subst hx; simp [TV.ok]
          · exact h2.objs j ob hl
        · intro j ob hl x hx
          obtain ⟨ob0, g1, g2⟩ := bx j ob hl
          rw [← g2]; exact h2.own j ob0 g1 x hx
        · intro j j' ob ob' hl hl' hne x hx
          obtain ⟨ob0, g1, g2⟩ := bx j ob hl
          obtain ⟨ob0', g1', g2'⟩ := bx j' ob' hl'
          exact h2.inj j j' ob0 ob0' g1 g1' hne x hx
        · intro j ob hl hw x hx
          obtain ⟨ob0, g1, g2⟩ := bx j ob hl
          rw [← g2] at hw; exact h2.sep j ob0 g1 hw x hx
        · intro b' o' hbo
          obtain ⟨a1, a2, a3, a4⟩ := h2.gh b' o' hbo
          refine ⟨a1, a2, fun j ob hl => ?_, a4⟩
          obtain ⟨ob0, g1, g2⟩ := bx j ob hl
          exact a3 j ob0 g1
      · cases e; exact h
    · cases e; exact h
  · cases e; exact h
theorem asArrs_sound : ∀ {l : List (Nat × Nat × Nat)} {k : Nat} {st s : St}, asArrs st k l = some s → SimE P X β0 w0 S0 st a w → SimE P X β0 w0 S0 s a w
  | [], _, _, _, e, h => by cases e; exact h
  | (x, off, m) :: l, k, st, s, e, h => by
    obtain ⟨s1, h1, e⟩ := ob_eq_some e
    exact asArrs_sound e (asArr_sound h1 h)
theorem headSt_sound {h : LHint} {s : St} (e : headSt h st = some s) (hs : SimE P X β0 w0 S0 st a w) : SimE P X β0 w0 S0 s a w := by
  obtain ⟨s1, h1, e⟩ := ob_eq_some e
  exact prune_sound e (asArrs_sound h1 hs)
theorem rename_out {z : Bool} {ins : Objs} {r : TV} {v : Value} {outs : Objs} {σ : Nat → Nat}
    (hinj : ∀ k k', k ∈ keysOf outs → k' ∈ keysOf outs → σ k = σ k' → k = k') (hlow : ∀ k, k < 40 → σ k = k) (hhigh : ∀ k, 40 ≤ k → 40 ≤ σ k)
    (hrv : RV P w' S' β' r v) (hok : r.ok (· ∈ keysOf outs)) (hth' : There P w' S' β' outs) (hfix : ∀ k, k < 40 → β' k = β k)
    (hown : ∀ k ob, lk k outs = some ob → ∀ x, foot (β' k) x → (k < 40 ∧ (ob.writable = true → InX ins β x)) ∨ InX ins β x ∨ w.heap.size ≤ x) (hins : ∀ k ob, lk k outs = some ob → k < 40 → k ∈ keysOf ins) (hext : ExtX z (InX ins β) w S w' S') :
    ∃ r' v' S'' β'' outs', Ending.returned v = .returned v' ∧ (r' = r.ren σ ∧ outs' = renO σ outs) ∧ RV P w' S'' β'' r' v' ∧ r'.ok (· ∈ keysOf outs') ∧
      There P w' S'' β'' outs' ∧ (∀ k, k < 40 → β'' k = β k) ∧ (∀ k ob, lk k outs' = some ob → ∀ x, foot (β'' k) x → (k < 40 ∧ (ob.writable = true → InX ins β x)) ∨ InX ins β x ∨ w.heap.size ≤ x) ∧
      (∀ k ob, lk k outs' = some ob → k < 40 → k ∈ keysOf ins) ∧ ExtX z (InX ins β) w S w' S'' := by
  let β'' : Places := fun j => match (keysOf outs).find? (fun k => σ k == j) with
    | some k => β' k
    | none => β' j
  have hβ : ∀ k, k ∈ keysOf outs → β'' (σ k) = β' k := by
    intro k hk
    simp only [β'']
    cases hf : (keysOf outs).find? (fun k' => σ k' == σ k) with
    | none => have := List.find?_eq_none.1 hf k hk; simp at this
    | some k' =>
      have h1 := List.mem_of_find?_eq_some hf
      have h2 := List.find?_some hf
      simp only [beq_iff_eq] at h2
      simp only [hinj k' k h1 hk h2]
  have hfx : ∀ j, j < 40 → β'' j = β' j := by
    intro j hj
    simp only [β'']
    cases hf : (keysOf outs).find? (fun k' => σ k' == j) with
    | none => rfl
    | some k' =>
      have h2 := List.find?_some hf
      simp only [beq_iff_eq] at h2
      have : k' < 40 := by
        rcases Nat.lt_or_ge k' 40 with h | h
        · exact h
        · have := hhigh k' h; omega
      rw [hlow k' this] at h2
      simp only [h2]
  have hko : ∀ (o : Objs), keysOf (renO σ o) = (keysOf o).map σ := by
    intro o
    induction o with
    | nil => rfl
    | cons p o ih => obtain ⟨j, x⟩ := p; simp only [renO, keysOf, List.map_cons] at ih ⊢; rw [ih]
  refine ⟨_, v, S', β'', renO σ outs, rfl, ⟨rfl, rfl⟩, hrv.rename (p := (· ∈ keysOf outs)) hβ hok, ren_ok (p := (· ∈ keysOf outs)) (fun k hk => by rw [hko]; exact List.mem_map_of_mem hk) hok, ⟨?_, ?_, ?_⟩, ?_, ?_, ?_, hext⟩
  · intro j ob hj
    obtain ⟨k, x, rfl, h1, rfl⟩ := renO_lk hinj hj
    obtain ⟨g1, g2⟩ := hth'.objs k x h1
    exact ⟨g1.rename (p := (· ∈ keysOf outs)) hβ (lk_keys h1) g2, okO_ren (p := (· ∈ keysOf outs)) (fun k hk => by rw [hko]; exact List.mem_map_of_mem hk) g2⟩
  · intro j j' ob ob' hj hj' hne x hx
    obtain ⟨k, y, rfl, h1, rfl⟩ := renO_lk hinj hj
    obtain ⟨k', y', rfl, h1', rfl⟩ := renO_lk hinj hj'
    rw [hβ k (lk_keys h1)] at hx
    rw [hβ k' (lk_keys h1')]
    exact hth'.inj k k' y y' h1 h1' (fun e => hne (by rw [e])) x hx
  · intro j ob hj hw x hx
    obtain ⟨k, y, rfl, h1, rfl⟩ := renO_lk hinj hj
    rw [hβ k (lk_keys h1)] at hx
    rw [wr_ren] at hw
    exact hth'.sep k y h1 hw x hx
  · intro k hk; rw [hfx k hk]; exact hfix k hk
  · intro j ob hj x hx
    obtain ⟨k, y, rfl, h1, rfl⟩ := renO_lk hinj hj
    rw [hβ k (lk_keys h1)] at hx
    rw [wr_ren]
    rcases hown k y h1 x hx with ⟨h4, h5⟩ | h4
    · exact .inl ⟨by rw [hlow k h4]; exact h4, h5⟩
    · exact .inr h4
  · intro j ob hj h40
    obtain ⟨k, y, rfl, h1, rfl⟩ := renO_lk hinj hj
    have : k < 40 := by
      rcases Nat.lt_or_ge k 40 with h | h
      · exact h
      · have := hhigh k h; omega
    rw [hlow k this]
    exact hins k y h1 this
theorem ACz.rename {z : Bool} {f : FuncId} {ins : Objs} {args : List TV} {r0 : TV} {o0 : Objs} {σ : Nat → Nat} (h : ACz z P f ins args fun _ _ r o => r = r0 ∧ o = o0)
    (hinj : ∀ k k', k ∈ keysOf o0 → k' ∈ keysOf o0 → σ k = σ k' → k = k') (hlow : ∀ k, k < 40 → σ k = k) (hhigh : ∀ k, 40 ≤ k → 40 ≤ σ k) :
    ACz z P f ins args fun _ _ r o => r = r0.ren σ ∧ o = renO σ o0 := by
  intro w S β vs hzt hb hkn hl hr ho hth
  refine (h w S β vs hzt hb hkn hl hr ho hth).mono ?_
  rintro e w' ⟨r, v, S', β', outs, rfl, ⟨rfl, rfl⟩, hrv, hok, hth', hfix, hown, hins, hext⟩
  exact rename_out hinj hlow hhigh hrv hok hth' hfix hown hins hext
def awL (P : Program) (c : Code) (Q : Exit → St → Prop) (st : St) : Prop :=
  ∀ (X : Nat → Prop) (β0 : Places) (w0 : World) (S0 : Stable) (a : Act) (w : World), SimE P X β0 w0 S0 st a w → ∀ b k cs, ∃ e a' w',
    (∃ st', Q e st' ∧ SimE P X β0 w0 S0 st' a' w') ∧ Arrives P (lone (b.at a (.code c :: .inLoop c :: k)) cs w) b k cs e a' w'
theorem aw_of_awL {c : Code} {Q : Exit → St → Prop} (h : awL P c Q st) : aw P (.loop c) Q st := by
  intro X β0 w0 S0 a w hs b k cs
  obtain ⟨e, a', w', hq, harr⟩ := h X β0 w0 S0 a w hs b k cs
  exact ⟨e, a', w', hq, .of_steps (.one step_loop) harr⟩
theorem awL_round {c : Code} {Q : Exit → St → Prop} (h : aw P c (fun e s => match e with | .normal => awL P c Q s | .exit id => Q (.exit id) s | .ret => Q .ret s | _ => False) st) : awL P c Q st := by
  intro X β0 w0 S0 a w hs b k cs
  obtain ⟨e, a₁, w₁, ⟨s, hq, hs1⟩, harr⟩ := h X β0 w0 S0 a w hs b (.inLoop c :: k) cs
  cases e with
  | normal =>
    obtain ⟨e₂, a₂, w₂, hq₂, harr₂⟩ := hq X β0 w0 S0 a₁ w₁ hs1 b k cs
    exact ⟨e₂, a₂, w₂, hq₂, .of_steps (Steps.trans harr (.one step_inLoop)) harr₂⟩
  | exit id => exact ⟨_, a₁, w₁, ⟨s, hq, hs1⟩, .pass (x := .inLoop c) rfl (fun _ _ => .inl (by simp)) harr⟩
  | ret => exact ⟨_, a₁, w₁, ⟨s, hq, hs1⟩, .pass (x := .inLoop c) rfl (fun _ _ => .inl (by simp)) harr⟩
  | goto l => exact hq.elim
  | panic l => exact hq.elim
  | outgrown => exact hq.elim
def is (r : Exit × St) : Exit → St → Prop := fun e s => e = r.1 ∧ s = r.2
end
end Go.Av
end
section
set_option linter.unusedVariables false
set_option linter.unusedSimpArgs false
set_option linter.unusedSectionVars false
namespace Go.Av
section
variable [Known] {P : Program} {U : Nat → Prop} {q q' r : St}
structure Fr (U : Nat → Prop) (q q' : St) : Prop where
  o : q'.o = q.o
  ks : q'.ks = q.ks
  n : q'.n = q.n
  sz : q'.sz = q.sz
  u : q'.u = q.u
  g : q'.g = q.g
  t : ∀ x, ¬ U x → lk x q'.t = lk x q.t
def Off (U : Nat → Prop) (x : Operand) : Prop := ∀ d, x = .tmp d → ¬ U d
theorem evc_fr (h : Fr U q q') {x : Operand} (hx : Off U x) : evc q' x = evc q x := by
  cases x with
  | tmp t => simp only [evc]; rw [h.t t (hx t rfl)]
  | _ => rfl
theorem boundOf_fr (h : Fr U q q') {d : Nat} {x : Option Operand} (hx : ∀ y, x = some y → Off U y) : boundOf q' d x = boundOf q d x := by
  cases x with
  | none => rfl
  | some y => simp only [boundOf, evc_fr h (hx y rfl)]
theorem loadAt_fr (h : Fr U q q') {ag : Bool} {sz : Nat} {tv : TV} : loadAt ag sz q' tv = loadAt ag sz q tv := by
  cases tv <;> simp only [loadAt, h.o]
theorem indexAt_fr (h : Fr U q q') {el : Nat} {n : Int} {tv : TV} : indexAt el q' n tv = indexAt el q n tv := by
  unfold indexAt
  rw [h.o]
theorem lenOf_fr (h : Fr U q q') {t : TypeId} {tv : TV} : lenOf P t q' tv = lenOf P t q tv := by
  unfold lenOf
  rw [h.o]
theorem fillTV_fr (h : Fr U q q') {fl : List (Nat × Nat)} : ∀ {ps : List (Nat × Operand)} {cs : List TV}, (∀ p ∈ ps, Off U p.2) → fillTV fl q' ps cs = fillTV fl q ps cs
  | [], _, _ => rfl
  | (f, x) :: ps, cs, hp => by
    simp only [fillTV]
    rw [evc_fr h (x := x) (hp (f, x) (by simp))]
    congr 1
    funext os
    congr 1
    funext new
    congr 1
    funext _
    exact fillTV_fr h (fun p hp' => hp p (List.mem_cons_of_mem _ hp'))
theorem sliceAt_fr (h : Fr U q q') {t : TypeId} {lo hi : Option Operand} (hl : ∀ y, lo = some y → Off U y) (hh : ∀ y, hi = some y → Off U y) {tv : TV} : sliceAt P q' t lo hi tv = sliceAt P q t lo hi tv := by
  unfold sliceAt
  simp only [boundOf_fr h hl, boundOf_fr h hh]
theorem leff_fr (h : Fr U q q') {op : Op} (hx : ∀ x ∈ op.operands, Off U x) : leff P q' op = leff P q op := by
  cases op with
  | move x => simp only [leff, evc_fr h (hx x (by simp [Op.operands]))]
  | assign x => simp only [leff, evc_fr h (hx x (by simp [Op.operands]))]
  | pick c a b => simp only [leff, evc_fr h (hx c (by simp [Op.operands])), evc_fr h (hx a (by simp [Op.operands])), evc_fr h (hx b (by simp [Op.operands]))]
  | box e x => simp only [leff, evc_fr h (hx x (by simp [Op.operands]))]
  | load t x => simp only [leff, evc_fr h (hx x (by simp [Op.operands])), loadAt_fr h]
  | fieldAddr s x f => simp only [leff, evc_fr h (hx x (by simp [Op.operands]))]
  | indexAddr t x i => simp only [leff, evc_fr h (hx x (by simp [Op.operands])), evc_fr h (hx i (by simp [Op.operands])), indexAt_fr h]
  | binOp o t x y t2 => simp only [leff, evc_fr h (hx x (by simp [Op.operands])), evc_fr h (hx y (by simp [Op.operands]))]
  | unOp o t x => simp only [leff, evc_fr h (hx x (by simp [Op.operands]))]
  | slice t x lo hi mx =>
    cases mx with
    | some m => rfl
    | none =>
      simp only [leff, evc_fr h (hx x (by simp [Op.operands]))]
      rw [sliceAt_fr h (fun y hy => hx y (by simp [Op.operands, hy])) (fun y hy => hx y (by simp [Op.operands, hy]))]
  | index t x i => simp only [leff, evc_fr h (hx x (by simp [Op.operands])), evc_fr h (hx i (by simp [Op.operands]))]
  | convert s d x =>
    have e1 : ∀ tv, convPtr P q' s d tv = convPtr P q s d tv := fun tv => by unfold convPtr toUns fromUns; simp only [h.o]
    simp only [leff, evc_fr h (hx x (by simp [Op.operands])), e1]
  | nilCheck x => simp only [leff, evc_fr h (hx x (by simp [Op.operands]))]
  | build t parts =>
    simp only [leff]
    congr 1
    funext fl
    congr 1
    funext z
    rw [fillTV_fr h]
    intro p hp
    refine hx p.2 ?_
    simp only [Op.operands, List.mem_toArray, List.mem_map]
    exact ⟨p, hp, rfl⟩
  | extract x i => simp only [leff, evc_fr h (hx x (by simp [Op.operands]))]
  | makeFunc f first cap =>
    cases f with
    | func f =>
      simp only [leff]
      congr 1
      funext _
      congr 3
      refine List.map_congr_left fun x hx' => evc_fr h (hx x ?_)
      simp only [Op.operands, Array.mem_append]
      exact .inr (by simpa using hx')
    | _ => rfl
  | call c =>
    simp only [leff]
    cases hc : c.callee with
    | builtin b =>
      cases b <;> first | rfl | skip
      case unsafeSliceData =>
        show bleff P q' c.args c.argTypes _ = bleff P q c.args c.argTypes _
        simp only [bleff]
        cases ha : c.args[0]? with
        | none => rfl
        | some x =>
          simp only [ob]
          have : Off U x := hx x (by simp only [Op.operands, Call.operands, hc]; simp [Array.mem_of_getElem? ha])
          rw [evc_fr h this]
          have e1 : ∀ tv, sliceDataAt q' tv = sliceDataAt q tv := fun tv => by unfold sliceDataAt; simp only [h.o]
          rw [e1]
      simp only [bleff]
      cases ha : c.args[0]? with
      | none => rfl
      | some x =>
        simp only [ob]
        have : Off U x := hx x (by simp only [Op.operands, Call.operands, hc]; simp [Array.mem_of_getElem? ha])
        rw [evc_fr h this]
        cases c.argTypes[0]? with
        | none => rfl
        | some t => simp only [lenOf_fr h]
    | _ => rfl
  | _ => rfl
def Goes (U : Nat → Prop) (d : Option Nat) (r : St) (x : Option St) : Prop := ∃ r', x = some r' ∧ Fr (fun i => U i ∧ d ≠ some i) r r'
theorem put_fr (h : Fr U q q') {x : TV} {d : Option Nat} (e : put q x d = some r) : Goes U d r (put q' x d) := by
  cases d with
  | none => cases e; exact ⟨q', rfl, h.o, h.ks, h.n, h.sz, h.u, h.g, fun i hi => h.t i (fun hu => hi ⟨hu, by simp⟩)⟩
  | some d =>
    obtain ⟨_, h1, e⟩ := ob_eq_some e
    cases e
    refine ⟨{ t := (d, x) :: q'.t, o := q'.o, ks := q'.ks, n := q'.n, sz := q'.sz, u := q'.u, g := q'.g }, ?_, h.o, h.ks, h.n, h.sz, h.u, h.g, fun i hi => ?_⟩
    · simp only [put]; rw [h.sz, h1]; rfl
    · by_cases hid : i = d
      · subst hid; rw [lk_cons_eq, lk_cons_eq]
      · rw [lk_cons_ne _ _ hid, lk_cons_ne _ _ hid]; exact h.t i (fun hu => hi ⟨hu, fun e => hid (by cases e; rfl)⟩)
theorem frz_fr (h : Fr U q q') (l : List Nat) : Fr U (Av.frz q l) (Av.frz q' l) := by
  induction l generalizing q q' with
  | nil => exact h
  | cons k l ih =>
    simp only [Av.frz]
    refine ih ?_
    rw [h.o]
    cases lk k q.o with
    | none => exact h
    | some x => exact ⟨by simp only [Av.frz1, h.o, h.g], h.ks, h.n, h.sz, h.u, by simp only [Av.frz1, h.g], h.t⟩
theorem toTs_fr (h : Fr U q q') : ∀ (l : List TV), toTs q' l = toTs q l
  | [] => rfl
  | .d t :: l => by simp only [toTs, toTs_fr h l]
  | .nl :: l => by simp only [toTs, toTs_fr h l]
  | .own k :: l => by simp only [toTs, toTs_fr h l, h.o]
  | .unk :: l => rfl
  | .agg _ :: l => rfl
  | .tup _ :: l => rfl
  | .ptr _ _ :: l => rfl
  | .ap _ _ _ :: l => rfl
  | .rp _ :: l => rfl
  | .clo _ _ :: l => rfl
  | .fn _ :: l => rfl
theorem storeObj_fr (h : Fr U q q') {k off i f sz : Nat} {new : List TV} {b : Bool} {o : Obj} (e : storeObj q k off i f sz new b o = some r) : ∃ r', storeObj q' k off i f sz new b o = some r' ∧ Fr U r r' := by
  cases o with
  | box cs ty =>
    cases b with
    | true => cases e
    | false =>
      simp only [storeObj] at e ⊢
      obtain ⟨_, h1, e⟩ := ob_eq_some e
      cases e
      refine ⟨{ t := q'.t, o := (k, .box (setSeg off new cs) ty) :: q'.o, ks := q'.ks, n := q'.n, sz := q'.sz, u := q'.u, g := q'.g }, by unfold storeBox; rw [h1]; rfl, by simp only [h.o], h.ks, h.n, h.sz, h.u, h.g, h.t⟩
  | arr A m es =>
    cases b with
    | false => cases e
    | true =>
      simp only [storeObj] at e ⊢
      unfold storeArr at e ⊢
      obtain ⟨x, h1, e⟩ := ob_eq_some e
      obtain ⟨ts, h2, e⟩ := ob_eq_some e
      obtain ⟨_, h3, e⟩ := ob_eq_some e
      cases e
      refine ⟨{ t := q'.t, o := (k, .arr A m (es.set i (setSeg f ts x))) :: q'.o, ks := q'.ks, n := q'.n, sz := q'.sz, u := q'.u, g := q'.g }, ?_, by simp only [h.o], h.ks, h.n, h.sz, h.u, h.g, h.t⟩
      rw [toTs_fr h, h1, h2]
      simp only [ob]
      rw [h3]
  | fz _ _ _ => cases e
theorem storeAt_fr (h : Fr U q q') {sz : Nat} {new : List TV} {tv : TV} (e : storeAt q sz new tv = some r) : ∃ r', storeAt q' sz new tv = some r' ∧ Fr U r r' := by
  cases tv with
  | ptr k off =>
    simp only [storeAt] at e ⊢
    rw [h.o]
    obtain ⟨o, h1, e⟩ := ob_eq_some e
    rw [h1]
    exact storeObj_fr h e
  | ap k i f =>
    simp only [storeAt] at e ⊢
    have hf := frz_fr h (ownKeysL new)
    rw [hf.o]
    obtain ⟨o, h1, e⟩ := ob_eq_some e
    rw [h1]
    exact storeObj_fr hf e
  | _ => cases e
theorem scrT_lk' {k i : Nat} : ∀ {l : List (Nat × TV)}, lk i (scrT k l) = (lk i l).map (TV.scr k)
  | [] => rfl
  | (j, x) :: l => by
    simp only [scrT]
    by_cases hij : i = j
    · subst hij; rw [lk_cons_eq, lk_cons_eq]; rfl
    · rw [lk_cons_ne _ _ hij, lk_cons_ne _ _ hij]; exact scrT_lk'
theorem mkArr_fr (h : Fr U q q') {d m : Nat} {es : List (List T)} {A : Ann} (e : mkArr q d m es A = some r) : Goes U (some d) r (mkArr q' d m es A) := by
  unfold mkArr at e ⊢
  obtain ⟨_, h1, e⟩ := ob_eq_some e
  cases e
  refine ⟨{ t := (d, .own (kOf d)) :: q'.t, o := (kOf d, .arr A m es) :: q'.o, ks := kOf d :: q'.ks, n := q'.n, sz := q'.sz, u := q'.u, g := q'.g }, ?_, by simp only [h.o], by simp only [h.ks], h.n, h.sz, h.u, h.g, fun i hi => ?_⟩
  · rw [h.sz, h.ks, h1]; rfl
  · by_cases hid : i = d
    · subst hid; rw [lk_cons_eq, lk_cons_eq]
    · rw [lk_cons_ne _ _ hid, lk_cons_ne _ _ hid]; exact h.t i (fun hu => hi ⟨hu, fun e => hid (by cases e; rfl)⟩)
theorem fillEs_fr (h : Fr U q q') {sz : Nat} : ∀ {ps : List (Nat × Operand)} {es : List (List T)}, (∀ p ∈ ps, Off U p.2) → fillEs q' sz ps es = fillEs q sz ps es
  | [], _, _ => rfl
  | (i, x) :: ps, es, hp => by
    simp only [fillEs]
    rw [evc_fr h (x := x) (hp (i, x) (by simp))]
    congr 1
    funext new
    rw [toTs_fr h]
    congr 1
    funext ts
    congr 1
    funext _
    exact fillEs_fr h (fun p hp' => hp p (List.mem_cons_of_mem _ hp'))
theorem partKeys_fr (h : Fr U q q') : ∀ {ps : List (Nat × Operand)}, (∀ p ∈ ps, Off U p.2) → partKeys q' ps = partKeys q ps
  | [], _ => rfl
  | (i, x) :: ps, hp => by
    simp only [partKeys]
    rw [evc_fr h (x := x) (hp (i, x) (by simp)), partKeys_fr h (fun p hp' => hp p (List.mem_cons_of_mem _ hp'))]
theorem readEs_fr (h : Fr U q q') {m : Nat} {tv : TV} : readEs q' m tv = readEs q m tv := by
  unfold readEs; rw [h.o]
theorem baseEs_fr (h : Fr U q q') {d m : Nat} {tv : TV} : baseEs q' d m tv = baseEs q d m tv := by
  unfold baseEs; rw [h.o, h.ks]
theorem effOn_fr (h : Fr U q q') {d : Option Nat} {x : Eff} (e : effOn q d x = some r) : Goes U d r (effOn q' d x) := by
  cases x with
  | val x => exact put_fr h e
  | box cs ty =>
    simp only [effOn] at e ⊢
    obtain ⟨d', hd, e1⟩ := ob_eq_some e
    clear e
    subst hd
    simp only [ob]
    obtain ⟨_, h1, e2⟩ := ob_eq_some e1
    clear e1
    cases e2
    refine ⟨{ t := (d', .ptr (kOf d') 0) :: q'.t, o := (kOf d', .box cs ty) :: q'.o, ks := kOf d' :: q'.ks, n := q'.n, sz := q'.sz, u := q'.u, g := q'.g }, ?_, by simp only [h.o], by simp only [h.ks], h.n, h.sz, h.u, h.g, fun i hi => ?_⟩
    · rw [h.sz, h.ks, h1]
    · by_cases hid : i = d'
      · subst hid; rw [lk_cons_eq, lk_cons_eq]
      · rw [lk_cons_ne _ _ hid, lk_cons_ne _ _ hid]; exact h.t i (fun hu => hi ⟨hu, fun e => hid (by cases e; rfl)⟩)
theorem lop_fr (h : Fr U q q') {o : Oper} (hx : ∀ x ∈ o.op.operands, Off U x) (e : lop P q o = some r) : Goes U o.dst r (lop P q' o) := by
  unfold lop at e ⊢
  rw [leff_fr h hx]
  obtain ⟨eff, h1, e⟩ := ob_eq_some e
  rw [h1]
  exact effOn_fr h e
theorem eop_fr (h : Fr U q q') {o : Oper} (hx : ∀ x ∈ o.op.operands, Off U x) (e : eop P q o o.op = some r) : Goes U o.dst r (eop P q' o o.op) := by
  have other : lop P q o = some r → Goes U o.dst r (lop P q' o) := lop_fr h hx
  cases hop : o.op with
  | store t x v =>
    rw [hop] at e hx
    simp only [eop] at e ⊢
    obtain ⟨s, h1, e⟩ := ob_eq_some e
    unfold astore at h1 ⊢
    rw [evc_fr h (hx v (by simp [Op.operands])), evc_fr h (hx x (by simp [Op.operands]))]
    obtain ⟨new, h2, h1⟩ := ob_eq_some h1
    obtain ⟨_, h3, h1⟩ := ob_eq_some h1
    rw [h2, ob_some, h3, ob_some]
    obtain ⟨s', h4, h5⟩ := storeAt_fr h h1
    rw [h4]
    exact put_fr h5 e
  | call c =>
    rw [hop] at e hx
    simp only [eop] at e ⊢
    cases hc : c.callee with
    | value f => rw [hc] at e; cases e
    | invoke a b => rw [hc] at e; exact other e
    | builtin b =>
      rw [hc] at e
      by_cases hb : b = .append
      · subst hb
        simp only at e ⊢
        cases hty : c.argTypes.toList with
        | nil => rw [hty] at e; cases e
        | cons t l =>
          cases l with
          | nil => rw [hty] at e; cases e
          | cons u l =>
            cases l with
            | cons _ _ => rw [hty] at e; cases e
            | nil =>
              cases hax : c.args.toList with
              | nil => rw [hty, hax] at e; cases e
              | cons sx l =>
                cases l with
                | nil => rw [hty, hax] at e; cases e
                | cons x l =>
                  cases l with
                  | cons _ _ => rw [hty, hax] at e; cases e
                  | nil =>
                    rw [hty, hax] at e
                    simp only at e ⊢
                    have hm : ∀ y, y ∈ c.args.toList → Off U y := fun y hy => hx y (by simp only [Op.operands, Call.operands, hc]; simpa using hy)
                    rw [evc_fr h (hm sx (by rw [hax]; simp)), evc_fr h (hm x (by rw [hax]; simp))]
                    unfold eappend at e ⊢
                    obtain ⟨d, h1, e⟩ := ob_eq_some e
                    obtain ⟨el, h2, e⟩ := ob_eq_some e
                    obtain ⟨z, h3, e⟩ := ob_eq_some e
                    obtain ⟨bb, h4, e⟩ := ob_eq_some e
                    obtain ⟨new, h5, e⟩ := ob_eq_some e
                    obtain ⟨_, h6, e⟩ := ob_eq_some e
                    obtain ⟨_, h7, e⟩ := ob_eq_some e
                    rw [h1, ob_some, h2, ob_some, h3, ob_some, baseEs_fr h, h4, ob_some, readEs_fr h, h5, ob_some, h6, ob_some, h7, ob_some]
                    unfold apSt at e ⊢
                    obtain ⟨_, h8, e⟩ := ob_eq_some e
                    cases e
                    refine ⟨{ t := (d, .own bb.1) :: scrT bb.1 q'.t, o := (bb.1, .arr (apAnn (elAnn P el) bb.2.1) (tySize P el) (bb.2.2 ++ new)) :: scrO bb.1 q'.o, ks := bb.1 :: q'.ks, n := q'.n, sz := q'.sz, u := q'.u, g := q'.g }, ?_, by simp only [h.o], by simp only [h.ks], h.n, h.sz, h.u, h.g, fun i hi => ?_⟩
                    · rw [h.sz, h8]; rfl
                    · by_cases hid : i = d
                      · subst hid; rw [lk_cons_eq, lk_cons_eq]
                      · rw [lk_cons_ne _ _ hid, lk_cons_ne _ _ hid, scrT_lk', scrT_lk', h.t i (fun hu => hi ⟨hu, fun e => hid (by cases e; rfl)⟩)]
      · by_cases hb2 : b = .unsafeString
        · subst hb2
          simp only at e ⊢
          cases hty : c.argTypes.toList with
          | nil => rw [hty] at e; cases e
          | cons t l =>
            cases l with
            | nil => rw [hty] at e; cases e
            | cons u l =>
              cases l with
              | cons _ _ => rw [hty] at e; cases e
              | nil =>
                cases hax : c.args.toList with
                | nil => rw [hty, hax] at e; cases e
                | cons sx l =>
                  cases l with
                  | nil => rw [hty, hax] at e; cases e
                  | cons x l =>
                    cases l with
                    | cons _ _ => rw [hty, hax] at e; cases e
                    | nil =>
                      rw [hty, hax] at e
                      simp only at e ⊢
                      have hm : ∀ y, y ∈ c.args.toList → Off U y := fun y hy => hx y (by simp only [Op.operands, Call.operands, hc]; simpa using hy)
                      rw [evc_fr h (hm sx (by rw [hax]; simp)), evc_fr h (hm x (by rw [hax]; simp))]
                      unfold eunstr at e ⊢
                      obtain ⟨q1, h1, e⟩ := ob_eq_some e
                      obtain ⟨y, h2, e⟩ := ob_eq_some e
                      have hu : unstrK P q' t (evc q sx) (evc q x) = unstrK P q t (evc q sx) (evc q x) := by unfold unstrK; rw [h.o]
                      obtain ⟨y2, h3, e⟩ := ob_eq_some e
                      rw [h.g, h1, ob_some, hu, h2, ob_some, h3, ob_some]
                      exact put_fr (frz_fr h _) e
        · cases b <;> first | exact absurd rfl hb | exact absurd rfl hb2 | exact other e
  | convert src d x =>
    rw [hop] at e hx
    simp only [eop] at e ⊢
    cases hti : tyInt P d with
    | some k => rw [hti] at e; exact other e
    | none =>
      rw [hti] at e
      simp only at e ⊢
      rw [evc_fr h (hx x (by simp [Op.operands]))]
      cases hst : tyStr P d with
      | true =>
        rw [hst] at e
        simp only at e ⊢
        have hs : strEs q' (evc q x) = strEs q (evc q x) := by unfold strEs; rw [h.o]
        rw [hs]
        unfold estr at e ⊢
        obtain ⟨_, h1, e⟩ := ob_eq_some e
        obtain ⟨es, h2, e⟩ := ob_eq_some e
        obtain ⟨y, h3, e⟩ := ob_eq_some e
        rw [h1, ob_some, h2, ob_some, h3, ob_some]
        exact put_fr h e
      | false =>
        rw [hst] at e
        simp only at e ⊢
        cases hip : isPtr (evc q x) with
        | true => rw [hip] at e; exact other e
        | false =>
        rw [hip] at e
        simp only at e ⊢
        unfold ebytes at e ⊢
        split at e
        · obtain ⟨_, h1, e⟩ := ob_eq_some e
          rw [h1, ob_some]
          cases hw : wide o.dst with
          | true =>
            rw [hw, cond_true] at e
            obtain ⟨dd, h2, e⟩ := ob_eq_some e
            obtain ⟨_, h3, e⟩ := ob_eq_some e
            rw [cond_true, h2, ob_some, h3, ob_some]
            exact mkArr_fr h e
          | false =>
            rw [hw, cond_false] at e
            rw [cond_false]
            exact put_fr h e
        · cases e
  | makeSlice t l c =>
    rw [hop] at e hx
    simp only [eop] at e ⊢
    rw [evc_fr h (hx l (by simp [Op.operands])), evc_fr h (hx c (by simp [Op.operands]))]
    unfold emake at e ⊢
    obtain ⟨d, h1, e⟩ := ob_eq_some e
    obtain ⟨el, h2, e⟩ := ob_eq_some e
    obtain ⟨z, h3, e⟩ := ob_eq_some e
    obtain ⟨n, h4, e⟩ := ob_eq_some e
    obtain ⟨n', h5, e⟩ := ob_eq_some e
    obtain ⟨_, h6, e⟩ := ob_eq_some e
    obtain ⟨_, h7, e⟩ := ob_eq_some e
    rw [h1, ob_some, h2, ob_some, h3, ob_some, h4, ob_some, h5, ob_some, h6, ob_some, h7, ob_some]
    exact mkArr_fr h e
  | buildSlice t len parts =>
    rw [hop] at e hx
    simp only [eop] at e ⊢
    have hp : ∀ p ∈ parts.toList, Off U p.2 := fun p hp => hx p.2 (by simp only [Op.operands, List.mem_toArray, List.mem_map]; exact ⟨p, hp, rfl⟩)
    unfold ebuild at e ⊢
    obtain ⟨d, h1, e⟩ := ob_eq_some e
    obtain ⟨el, h2, e⟩ := ob_eq_some e
    obtain ⟨z, h3, e⟩ := ob_eq_some e
    obtain ⟨es, h4, e⟩ := ob_eq_some e
    obtain ⟨_, h6, e⟩ := ob_eq_some e
    rw [h1, ob_some, h2, ob_some, h3, ob_some, partKeys_fr h hp, fillEs_fr (frz_fr h _) hp, h4, ob_some, h6, ob_some]
    exact mkArr_fr (frz_fr h _) e
  | slice t x lo hi mx =>
    rw [hop] at e hx
    have hlo : ∀ y, lo = some y → Off U y := fun y hy => hx y (by simp [Op.operands, hy])
    have hhi : ∀ y, hi = some y → Off U y := fun y hy => hx y (by simp [Op.operands, hy])
    cases mx with
    | none =>
      simp only [eop] at e ⊢
      rw [evc_fr h (hx x (by simp [Op.operands]))]
      cases hv : evc q x with
      | own k =>
        rw [hv] at e
        simp only [eslice] at e ⊢
        have old : ∀ lo hi, (∀ y, lo = some y → Off U y) → (∀ y, hi = some y → Off U y) → eslice2 P q o t lo hi k = some r → Goes U o.dst r (eslice2 P q' o t lo hi k) := by
          intro lo hi hlo hhi e
          unfold eslice2 at e ⊢
          have hf := frz_fr h [k]
          rw [hf.o]
          obtain ⟨oo, h1, e⟩ := ob_eq_some e
          rw [h1, ob_some]
          cases oo with
          | fz A m es =>
            simp only at e ⊢
            obtain ⟨z, h2, e⟩ := ob_eq_some e
            rw [sliceAt_fr hf hlo hhi, h2]
            exact put_fr hf e
          | _ => cases e
        split at e
        · rename_i y
          rw [h.o]
          obtain ⟨oo, h1, e⟩ := ob_eq_some e
          rw [h1, ob_some]
          cases oo with
          | arr A m es =>
            simp only [eslice1] at e ⊢
            by_cases h40 : 40 ≤ k
            case neg => rw [decide_eq_false h40, cond_false] at e ⊢; exact old _ _ hlo hhi e
            rw [decide_eq_true h40, cond_true] at e ⊢
            obtain ⟨d, hd, e⟩ := ob_eq_some e
            obtain ⟨n, hn, e⟩ := ob_eq_some e
            rw [hd, ob_some, evc_fr h (hhi y rfl), hn, ob_some]
            unfold resl at e ⊢
            obtain ⟨el, hel, e⟩ := ob_eq_some e
            obtain ⟨_, hc, e⟩ := ob_eq_some e
            cases e
            rw [hel, ob_some, h.sz, hc, ob_some]
            refine ⟨_, rfl, by simp only [h.o], by simp only [h.ks], h.n, rfl, h.u, h.g, fun i hi => ?_⟩
            by_cases hid : i = d
            · subst hid; rw [lk_cons_eq, lk_cons_eq]
            · rw [lk_cons_ne _ _ hid, lk_cons_ne _ _ hid, scrT_lk', scrT_lk', h.t i (fun hu => hi ⟨hu, fun e => hid (by cases e; rfl)⟩)]
          | fz A m es => exact old _ _ hlo hhi e
          | box cs ty => cases e
        · exact old _ _ hlo hhi e
      | d tt => rw [hv] at e; exact other e
      | _ => rw [hv] at e; cases e
    | some m =>
      simp only [eop] at e ⊢
      rw [evc_fr h (hx x (by simp [Op.operands]))]
      unfold ezero at e ⊢
      obtain ⟨el, h1, e⟩ := ob_eq_some e
      obtain ⟨a, h2, e⟩ := ob_eq_some e
      obtain ⟨b, h3, e⟩ := ob_eq_some e
      obtain ⟨_, h4, e9⟩ := ob_eq_some e
      obtain ⟨y, hy, h2⟩ := Option.bind_eq_some_iff.1 h2
      obtain ⟨y', hy', h3⟩ := Option.bind_eq_some_iff.1 h3
      cases hy'
      subst hy
      have e1 : ((some y).bind fun h => intOfTV (evc q' h)) = some a := by simp only [Option.bind_some, evc_fr h (hhi y rfl)]; exact h2
      have e2 : ((some m).bind fun h => intOfTV (evc q' h)) = some b := by simp only [Option.bind_some, evc_fr h (hx m (by simp [Op.operands]))]; exact h3
      rw [h1, ob_some, e1, ob_some, e2, ob_some, h4, ob_some]
      exact put_fr h e9
  | _ => rw [hop] at e; exact other e
theorem prep1_fr (h : Fr U q q') (g : FuncId) (z : Bool) (fk : List Nat) (args : List TV) : prep1 q' g z fk args = prep1 q g z fk args := by
  unfold prep1; rw [h.o]
theorem prep_fr {C : Cfg} (h : Fr U q q') (f : TV) (args : List TV) : prep C q' f args = prep C q f args := by
  cases f with
  | clo g cap =>
    simp only [prep, prep2]
    cases C.Y g with
    | true => rw [h.g]; exact prep1_fr h _ _ _ _
    | false => rw [h.o, h.g]; exact prep1_fr (frz_fr h _) _ _ _ _
  | _ => rfl
theorem post_fr (h : Fr U q q') {d : Option Nat} {p : Prep} {x : TV × Objs} (e : post q d p x = some r) : Goes U d r (post q' d p x) := by
  unfold post at e ⊢
  rw [h.ks]
  obtain ⟨_, h1, e⟩ := ob_eq_some e
  rw [h1, ob_some]
  have hf := frz_fr h p.fk
  have hm : ∀ b os, Fr U (merge (bumpZ b (Av.frz q p.fk)) p.ins (nth p.κ) d os 0) (merge (bumpZ b (Av.frz q' p.fk)) p.ins (nth p.κ) d os 0) := by
    intro b os
    refine ⟨by simp only [merge, bumpZ, hf.o], by simp only [merge, bumpZ, hf.ks], rfl, hf.sz, hf.u, by simp only [merge, bumpZ, hf.g], hf.t⟩
  cases hz : p.z with
  | false =>
    rw [hz] at e
    exact put_fr (hm false x.2) e
  | true =>
    rw [hz] at e
    unfold postZ at e ⊢
    simp only at e ⊢
    obtain ⟨_, h2, e⟩ := ob_eq_some e
    rw [h2, ob_some, hf.g]
    exact put_fr (hm true _) e
end
end Go.Av
end
section
set_option linter.unusedVariables false
set_option linter.unusedSimpArgs false
set_option linter.unusedSectionVars false
namespace Go.Av
section
variable [Known] {P : Program} {X : Nat → Prop} {β0 : Places} {w0 w : World} {S0 : Stable} {a : Act} {U : Nat → Prop} {q q' r : St}
theorem SLe.sub {s1 s : St} (ht : ∀ i tv, lk i s1.t = some tv → lk i s.t = some tv) (ho : s1.o = s.o) (hk : s1.ks = s.ks) (hn : s1.n ≤ s.n) (hz : s1.sz = s.sz) (hu : s1.u = s.u) (hg : s1.g = s.g) : SLe P s1 s := by
  rintro X β0 w0 S0 a w ⟨S, β, h⟩
  refine SLe.of (fun i tv hl => ?_) (fun k ob hl => ?_) hn hz hu hg X β0 w0 S0 a w ⟨S, β, h⟩
  · obtain ⟨v, _, _, h3⟩ := h.tmps i tv (ht i tv hl)
    rw [hk]
    exact ⟨h3, tv, ht i tv hl, .refl _⟩
  · rw [ho] at hl
    obtain ⟨_, g2, g3⟩ := h.objs k ob hl
    rw [hk]
    exact ⟨g2, g3, ob, hl, .refl _⟩
theorem Fr.sle (h : Fr U q q') (hU : ∀ x, ¬ U x) : SLe P q q' :=
  .sub (fun i tv hl => by rw [h.t i (hU i)]; exact hl) h.o.symm h.ks.symm (by rw [h.n]; exact Nat.le_refl _) h.sz.symm h.u.symm h.g.symm
variable {ops : Array Oper} {pl : Plan}
theorem off_of {o : Oper} (h : ∀ d ∈ o.looksAt ops, ¬ U d) : ∀ x ∈ o.op.operands, Off U x := by
  intro x hx d hd
  refine h d ?_
  unfold Oper.looksAt
  exact List.mem_append_left _ (List.mem_filterMap.2 ⟨x, by simpa using hx, by rw [hd]⟩)
theorem gval_fr (h : Fr U q q') {o : Oper} (hl : ∀ d ∈ o.looksAt ops, ¬ U d) : gval ops q' o = gval ops q o := by
  unfold gval
  cases hg : o.guard with
  | none => rfl
  | some p =>
    obtain ⟨j, w⟩ := p
    simp only []
    cases hj : ops[j]? with
    | none => rfl
    | some oj =>
      simp only [ob]
      cases hd : oj.dst with
      | none => rfl
      | some d =>
        simp only []
        have : Off U (.tmp d) := by
          intro d' e
          cases e
          refine hl d ?_
          unfold Oper.looksAt
          refine List.mem_append_right _ ?_
          rw [hg]
          simp [hj, hd]
        rw [evc_fr h this]
theorem pv_fr (h : Fr U q q') {o : Oper} (hl : ∀ d ∈ o.looksAt ops, ¬ U d) : pv P ops q' o = pv P ops q o := by
  unfold pv
  rw [gval_fr h hl]
  cases gval ops q o with
  | none => rfl
  | some b =>
    cases b with
    | false => rfl
    | true => simp only [pv1]; rw [leff_fr h (off_of hl)]
structure PlanH (ops : Array Oper) (pl : Plan) : Prop where
  mem : ∀ i, i < ops.size → i ∈ pl.p0 ++ part pl.ss
  ah : ahead ops [] (pl.p0 ++ part pl.ss) = true
  dir : ∀ i o, ops[i]? = some o → ∀ e ∈ o.after, bindsA e = true → e.on ∈ ancOf pl i
  trans : ∀ i o, ops[i]? = some o → ∀ k ∈ ancOf pl i, ∃ e ∈ o.after, bindsA e = true ∧ (k = e.on ∨ k ∈ ancOf pl e.on)
  look : ∀ (i : Nat) (o : Oper), ops[i]? = some o → ∀ (k : Nat) (ok : Oper) (d : Nat), ops[k]? = some ok → ok.dst = some d → d ∈ o.looksAt ops → k ∈ ancOf pl i ∨ (k ∈ effs pl.ss ∧ i ∈ ancOf pl k)
  eff : ∀ k ∈ effs pl.ss, k ∉ pl.p0 ++ pus pl.ss
  dst : ∀ (i : Nat) (o : Oper), ops[i]? = some o → ∀ (k : Nat) (ok : Oper) (d : Nat), ops[k]? = some ok → ok.dst = some d → o.dst = some d → k = i
  p0 : puOk pl pl.p0 = true
  ss : ssOk pl none pl.p0 pl.ss = true
theorem planH (h : planOk ops pl = true) : PlanH ops pl := by
  unfold planOk at h
  simp only [Bool.and_eq_true] at h
  obtain ⟨⟨⟨⟨⟨h1, h2⟩, h3⟩, h4⟩, h5⟩, h6⟩ := h
  have lt : ∀ {i : Nat} {o : Oper}, ops[i]? = some o → i < ops.size := fun h => (Array.getElem?_eq_some_iff.1 h).1
  have h3' : ∀ i o, ops[i]? = some o → ancOk ops pl i = true := fun i o ho => List.all_eq_true.1 h3 i (List.mem_range.2 (lt ho))
  refine ⟨fun i hi => hasKey_iff.1 (List.all_eq_true.1 h1 i (List.mem_range.2 hi)), h2, ?_, ?_, ?_, fun k hk hm => (by have := List.all_eq_true.1 h6 k hk; rw [hasKey_iff.2 hm] at this; cases this), ?_, h4, h5⟩
  · intro i o ho e he hb
    have := h3' i o ho
    unfold ancOk at this
    simp only [ho, Bool.and_eq_true] at this
    have := List.all_eq_true.1 this.1.1.1 e (by simpa using he)
    rw [hb] at this
    exact hasKey_iff.1 (by simpa using this)
  · intro i o ho k hk
    have := h3' i o ho
    unfold ancOk at this
    simp only [ho, Bool.and_eq_true] at this
    have := List.all_eq_true.1 this.1.1.2 k hk
    obtain ⟨e, he, hh⟩ := List.any_eq_true.1 this
    simp only [Bool.and_eq_true, Bool.or_eq_true, beq_iff_eq] at hh
    exact ⟨e, by simpa using he, hh.1, hh.2.imp id hasKey_iff.1⟩
  · intro i o ho k ok d hk hd hl
    have := h3' i o ho
    unfold ancOk at this
    simp only [ho, Bool.and_eq_true] at this
    have := List.all_eq_true.1 this.1.2 k (List.mem_range.2 (lt hk))
    simp only [hk, Option.bind_some, hd, Bool.or_eq_true, Bool.not_eq_true'] at this
    rcases this with h | h | h
    · rw [hasKey_iff.2 hl] at h; cases h
    · exact .inl (hasKey_iff.1 h)
    · rw [Bool.and_eq_true] at h
      exact .inr ⟨hasKey_iff.1 h.1, hasKey_iff.1 h.2⟩
  · intro i o ho k ok d hk hd hd2
    have := h3' i o ho
    unfold ancOk at this
    simp only [ho, Bool.and_eq_true] at this
    have := List.all_eq_true.1 this.2 k (List.mem_range.2 (lt hk))
    simp only [hk, Option.bind_some, hd, Bool.or_eq_true, beq_iff_eq, hd2, bne_self_eq_false, Bool.false_eq_true, or_false] at this
    exact this
def dsts (ops : Array Oper) (l : List Nat) (d : Nat) : Prop := ∃ i ∈ l, ∃ o, ops[i]? = some o ∧ o.dst = some d
theorem put_back {x : TV} {d : Option Nat} (e : put q x d = some r) : r.o = q.o ∧ r.ks = q.ks ∧ r.n = q.n ∧ r.sz = q.sz ∧ r.u = q.u ∧ r.g = q.g ∧ (∀ i, d ≠ some i → lk i r.t = lk i q.t) ∧ (∀ i, d = some i → lk i r.t = some x ∧ i < q.sz) := by
  cases d with
  | none => cases e; exact ⟨rfl, rfl, rfl, rfl, rfl, rfl, fun _ _ => rfl, fun i h => by cases h⟩
  | some d =>
    obtain ⟨_, h1, e⟩ := ob_eq_some e
    cases e
    refine ⟨rfl, rfl, rfl, rfl, rfl, rfl, fun i hi => ?_, fun i hi => ?_⟩
    · exact lk_cons_ne _ _ (fun e => hi (by rw [e]))
    · cases hi; exact ⟨lk_cons_eq _ _ _, of_decide_eq_true (chk_eq_some h1)⟩
theorem evPu_fr : ∀ {l : List Nat} {q r : St}, evPu P ops l q = some r → Fr (dsts ops l) r q
  | [], q, r, e => by cases e; exact ⟨rfl, rfl, rfl, rfl, rfl, rfl, fun _ _ => rfl⟩
  | i :: l, q, r, e => by
    obtain ⟨o, h1, e⟩ := ob_eq_some e
    obtain ⟨x, h2, e⟩ := ob_eq_some e
    obtain ⟨s, h3, e⟩ := ob_eq_some e
    obtain ⟨a1, a2, a3, a4, a5, a5g, a6, _⟩ := put_back h3
    have ih := evPu_fr e
    refine ⟨a1.symm.trans ih.o, a2.symm.trans ih.ks, a3.symm.trans ih.n, a4.symm.trans ih.sz, a5.symm.trans ih.u, a5g.symm.trans ih.g, fun d hd => ?_⟩
    rw [← a6 d (fun e => hd ⟨i, by simp, o, h1, e⟩)]
    exact ih.t d (fun ⟨j, hj, hh⟩ => hd ⟨j, List.mem_cons_of_mem _ hj, hh⟩)
def Valid (P : Program) (ops : Array Oper) (s : St) (i : Nat) : Prop := ∃ o x, ops[i]? = some o ∧ pv P ops s o = some x ∧ ∀ d, o.dst = some d → lk d s.t = some x ∧ d < s.sz
theorem evPu_valid (hP : PlanH ops pl) : ∀ {l : List Nat} {q r : St}, evPu P ops l q = some r → puOk pl l = true → (∀ k ∈ l, k ∈ pl.p0 ++ pus pl.ss) → ∀ i ∈ l, Valid P ops r i
  | [], _, _, _, _, _, i, hi => by cases hi
  | j :: l, q, r, e, hp, hpur, i, hi => by
    obtain ⟨o, h1, e⟩ := ob_eq_some e
    obtain ⟨x, h2, e⟩ := ob_eq_some e
    obtain ⟨s, h3, e4⟩ := ob_eq_some e
    simp only [puOk, Bool.and_eq_true] at hp
    obtain ⟨⟨p1, p2⟩, p3⟩ := hp
    rcases List.mem_cons.1 hi with hij | hi
    · subst hij
      obtain ⟨a1, a2, a3, a4, a5, a5g, a6, a7⟩ := put_back h3
      have hf := evPu_fr e4
      have hnot : ∀ k ∈ l, i ≠ k ∧ k ∉ ancOf pl i := by
        intro k hk
        have := List.all_eq_true.1 p1 k hk
        simp only [Bool.and_eq_true, bne_iff_ne, ne_eq, Bool.not_eq_true'] at this
        exact ⟨this.1, fun hm => by rw [hasKey_iff.2 hm] at this; exact absurd this.2 (by simp)⟩
      have hself : i ∉ ancOf pl i := fun hm => by rw [hasKey_iff.2 hm] at p2; cases p2
      have hqr : Fr (fun d => dsts ops (i :: l) d) r q := by
        refine ⟨a1.symm.trans hf.o, a2.symm.trans hf.ks, a3.symm.trans hf.n, a4.symm.trans hf.sz, a5.symm.trans hf.u, a5g.symm.trans hf.g, fun d hd => ?_⟩
        rw [← a6 d (fun e => hd ⟨i, by simp, o, h1, e⟩)]
        exact hf.t d (fun ⟨j, hj, hh⟩ => hd ⟨j, List.mem_cons_of_mem _ hj, hh⟩)
      have hlook : ∀ d ∈ o.looksAt ops, ¬ dsts ops (i :: l) d := by
        rintro d hd ⟨k, hk, ok, hok, hkd⟩
        rcases hP.look i o h1 k ok d hok hkd hd with hanc | ⟨hke, _⟩
        case inr => exact hP.eff k hke (hpur k hk)
        rcases List.mem_cons.1 hk with rfl | hk
        · exact hself hanc
        · exact (hnot k hk).2 hanc
      refine ⟨o, x, h1, ?_, fun d hd => ?_⟩
      · rw [← pv_fr hqr hlook]; exact h2
      · obtain ⟨b1, b2⟩ := a7 d hd
        refine ⟨?_, by rw [← hf.sz, a4]; exact b2⟩
        rw [← b1]
        refine (hf.t d ?_).symm
        rintro ⟨k, hk, ok, hok, hkd⟩
        exact (hnot k hk).1 (hP.dst i o h1 k ok d hok hkd hd).symm
    · exact evPu_valid hP e4 p3 (fun k hk => hpur k (List.mem_cons_of_mem _ hk)) i hi
theorem reB_valid : ∀ {l : List Nat} {s : St}, reB P ops s l = true → ∀ i ∈ l, Valid P ops s i
  | [], _, _, i, hi => by cases hi
  | j :: l, s, h, i, hi => by
    simp only [reB, Bool.and_eq_true] at h
    rcases List.mem_cons.1 hi with hij | hi
    · subst hij
      have h := h.1
      split at h
      · cases h
      · rename_i o ho
        split at h
        · cases h
        · rename_i x hx
          refine ⟨o, x, ho, hx, fun d hd => ?_⟩
          rw [hd] at h
          simp only [Bool.and_eq_true, decide_eq_true_eq] at h
          exact h
    · exact reB_valid h.2 i hi
def unl (ops : Array Oper) (done : List Nat) (listed : Array Bool) (d : Nat) : Prop := ∃ i ∈ done, ∃ o, ops[i]? = some o ∧ o.dst = some d ∧ listed.getD i true = false
def cnt (n : Nat) (listed : Array Bool) : Nat := ((List.range n).filter fun i => !listed.getD i true).length
theorem filter_lt {p p' : Nat → Bool} {i : Nat} (h : ∀ x, p' x = true → p x = true) (h1 : p i = true) (h2 : p' i = false) : ∀ (l : List Nat), i ∈ l → (l.filter p').length < (l.filter p).length
  | [], hi => by cases hi
  | j :: l, hi => by
    have le : ∀ (l : List Nat), (l.filter p').length ≤ (l.filter p).length := by
      intro l
      induction l with
      | nil => simp
      | cons a l ih =>
        simp only [List.filter_cons]
        cases hp : p' a with
        | true => rw [if_pos rfl, h a hp, if_pos rfl]; simpa using ih
        | false =>
          rw [if_neg (by simp)]
          split
          · simp; omega
          · exact ih
    simp only [List.filter_cons]
    rcases List.mem_cons.1 hi with hij | hi
    · subst hij
      rw [h2, h1, if_neg (by simp), if_pos rfl]
      have := le l
      simp; omega
    · have ih := filter_lt h h1 h2 l hi
      cases hp : p' j with
      | true => rw [if_pos rfl, h j hp, if_pos rfl]; simpa using ih
      | false =>
        rw [if_neg (by simp)]
        split
        · simp; omega
        · exact ih
theorem ahead_listed {listed : Array Bool} (hr : Region.ready .any ops listed = []) (hs : listed.size = ops.size) : ∀ {l b : List Nat}, ahead ops b l = true → (∀ k ∈ b, listed.getD k false = true) → ∀ k ∈ l, listed.getD k true = true
  | [], b, _, _, k, hk => by cases hk
  | i :: l, b, ha, hb, k, hk => by
    simp only [ahead, Bool.and_eq_true] at ha
    obtain ⟨h1, h2⟩ := ha
    split at h1
    · cases h1
    · rename_i o ho
      have hi : i < listed.size := by rw [hs]; exact (Array.getElem?_eq_some_iff.1 ho).1
      have hli : listed.getD i true = true := by
        cases hc : listed.getD i true with
        | true => rfl
        | false =>
          have : i ∈ Region.ready .any ops listed := mem_ready.2 ⟨hc, o, ho, fun e he hbe => hb _ (by
            have := List.all_eq_true.1 h1 e (by simpa using he)
            rw [show bindsA e = true from hbe] at this
            exact hasKey_iff.1 (by simpa using this))⟩
          rw [hr] at this; cases this
      rcases List.mem_cons.1 hk with rfl | hk
      · exact hli
      · refine ahead_listed hr hs h2 ?_ k hk
        intro j hj
        rcases List.mem_cons.1 hj with rfl | hj
        · simpa [Array.getD, hi] using hli
        · exact hb j hj
def Step1 (C : Cfg) (o : Oper) (b : Option Bool) (st s : St) : Prop := ∀ (U : Nat → Prop) (st' : St), Fr U st st' → (∀ x ∈ o.op.operands, Off U x) → ∃ s', Fr (fun i => U i ∧ o.dst ≠ some i) s s' ∧
  ∀ (X : Nat → Prop) (β0 : Places) (w0 : World) (S0 : Stable) (a : Act) (w : World), SimE C.P X β0 w0 S0 st' a w →
    b ≠ none ∧ (b = some true → ∀ Q, o.wp C.P a w (fun a' w' => SimE C.P X β0 w0 S0 s' a' w') Q) ∧ (b = some false → SimE C.P X β0 w0 S0 s' (a.put o.dst undef) w)
def alts : DT → List (Nat × List Nat × List Nat × DT)
  | .done => []
  | .alt a re pu next other => (a, re, pu, next) :: alts other
theorem alts_heads : ∀ {l : DT} {i : Nat}, i ∈ heads l → ∃ re pu next, (i, re, pu, next) ∈ alts l
  | .done, i, h => by cases h
  | .alt a re pu next other, i, h => by
    rcases List.mem_cons.1 h with rfl | h
    · exact ⟨re, pu, next, List.mem_cons_self ..⟩
    · obtain ⟨re', pu', next', h'⟩ := alts_heads h
      exact ⟨re', pu', next', List.mem_cons_of_mem _ h'⟩
theorem alts_pus : ∀ {l : DT} {a : Nat} {re pu : List Nat} {next : DT}, (a, re, pu, next) ∈ alts l → ∀ j, j ∈ pu ∨ j ∈ pus next → j ∈ pus l
  | .alt a re pu next other, _, _, _, _, h, j, hj => by
    rcases List.mem_cons.1 h with h | h
    · cases h
      simp only [pus, List.mem_append]
      rcases hj with hj | hj
      · exact .inl hj
      · exact .inr (.inl hj)
    · simp only [pus, List.mem_append]
      exact .inr (.inr (alts_pus h j hj))
theorem ssOk_alts {pl : Plan} : ∀ {l : DT} {U : Option (List Nat)} {done : List Nat} {V : List Nat}, ssOk pl U done l = true → (∀ u, U = some u → V = u) → (U = none → V = part l) → ∀ {a : Nat} {re pu : List Nat} {next : DT}, (a, re, pu, next) ∈ alts l →
    ((∀ i ∈ done, i ∈ ancOf pl a ∨ i ∈ re) ∧ puOk pl pu = true ∧ a ∉ pu ++ part next ∧ a ∉ done) ∧ ((∀ i ∈ V, i ∈ a :: (pu ++ part next)) ∧ ∀ i ∈ a :: (pu ++ part next), i ∈ V) ∧ ssOk pl none (done ++ pu) next = true
  | .alt a re pu next other, U, done, V, h, hU, hU0, a', re', pu', next', hm => by
    simp only [ssOk, Bool.and_eq_true] at h
    obtain ⟨c1, c2, c3, ⟨c4, c5⟩, c6, c7⟩ := h
    rcases List.mem_cons.1 hm with hm | hm
    · cases hm
      refine ⟨⟨fun i hi => ?_, c3, fun hm => (by rw [hasKey_iff.2 hm] at c4; cases c4), fun hm => (by rw [hasKey_iff.2 hm] at c5; cases c5)⟩, ?_, c6⟩
      · have := List.all_eq_true.1 c1 i hi
        simp only [Bool.or_eq_true] at this
        exact this.imp hasKey_iff.1 hasKey_iff.1
      · cases U with
        | none =>
          have := hU0 rfl
          subst this
          exact ⟨fun i hi => hi, fun i hi => hi⟩
        | some u =>
          have := hU u rfl
          subst this
          simp only [nodeOk, Bool.and_eq_true] at c2
          exact ⟨fun i hi => hasKey_iff.1 (List.all_eq_true.1 c2.1 i hi), fun i hi => hasKey_iff.1 (List.all_eq_true.1 c2.2 i hi)⟩
    · refine ssOk_alts c7 (V := V) (fun u hu => ?_) (fun h => by cases h) hm
      cases hu
      cases U with
      | none => exact hU0 rfl
      | some u => exact hU u rfl
theorem ssOk_blocked {pl : Plan} {l : DT} {done : List Nat} (h : ssOk pl none done l = true) : ∀ i ∈ part l, i ∈ heads l ∨ ∃ k ∈ part l, k ∈ ancOf pl i := by
  cases l with
  | done => intro i hi; cases hi
  | alt a re pu next other =>
    intro i hi
    simp only [ssOk, Bool.and_eq_true, nodeOk] at h
    have := List.all_eq_true.1 h.2.1 i hi
    simp only [Bool.or_eq_true] at this
    refine this.imp hasKey_iff.1 fun h => ?_
    obtain ⟨k, hk, hh⟩ := List.any_eq_true.1 h
    exact ⟨k, hk, hasKey_iff.1 hh⟩
def Rest (C : Cfg) (ops : Array Oper) (l : DT) (st s : St) : Prop :=
  ∀ (pl : Plan) (done : List Nat) (X : Nat → Prop) (β0 : Places) (w0 : World) (S0 : Stable) (Q : Exit → Act → World → Prop), PlanH ops pl → ssOk pl none done l = true → (∀ a w, SimE C.P X β0 w0 S0 s a w → Q .normal a w) →
    ∀ (fuel : Nat) (listed : Array Bool) (a : Act) (w : World), listed.size = ops.size → cnt ops.size listed ≤ fuel →
      (∀ k ∈ done, k ∈ pl.p0 ++ pus pl.ss) → (∀ j ∈ pus l, j ∈ pl.p0 ++ pus pl.ss) → (∃ q', Fr (unl ops done listed) st q' ∧ SimE C.P X β0 w0 S0 q' a w) → (∀ i, listed.getD i false = true → ∀ k ∈ ancOf pl i, listed.getD k false = true) →
      (∀ i ∈ part l, listed.getD i true = false) → (∀ i ∈ done, listed.getD i true = false → Valid C.P ops st i) → (∀ i, i < ops.size → listed.getD i true = true ∨ i ∈ done ∨ i ∈ part l) →
      wpAny C.P .any ops Q fuel listed a w
inductive DrOk (C : Cfg) (ops : Array Oper) : DT → St → St → Prop where
  | done (st : St) : DrOk C ops .done st st
  | one {a : Nat} {re pu : List Nat} {next : DT} {o : Oper} {st s1 s2 s : St} (ho : ops[a]? = some o) (h1 : Step1 C o (gval ops st o) st s1) (h2 : evPu C.P ops pu s1 = some s2) (h3 : reB C.P ops s2 re = true)
      (h4 : DrOk C ops next s2 s) : DrOk C ops (.alt a re pu next .done) st s
  | alt {a : Nat} {re pu : List Nat} {next other : DT} {o : Oper} {st s1 s2 s r : St} (ho : ops[a]? = some o) (h1 : Step1 C o (gval ops st o) st s1) (h2 : evPu C.P ops pu s1 = some s2) (h3 : reB C.P ops s2 re = true)
      (h4 : DrOk C ops next s2 s) (h5 : DrOk C ops other st r) (h6 : SLe C.P s r) : DrOk C ops (.alt a re pu next other) st s
theorem DrOk.alts {C : Cfg} : ∀ {l : DT} {st s : St}, DrOk C ops l st s → ∀ {a : Nat} {re pu : List Nat} {next : DT}, (a, re, pu, next) ∈ Av.alts l →
    ∃ o s1 s2 s', ops[a]? = some o ∧ Step1 C o (gval ops st o) st s1 ∧ evPu C.P ops pu s1 = some s2 ∧ reB C.P ops s2 re = true ∧ DrOk C ops next s2 s' ∧ SLe C.P s s'
  | .alt a re pu next other, st, s, h, a', re', pu', next', hm => by
    cases h with
    | one ho h1 h2 h3 h4 =>
      rcases List.mem_cons.1 hm with hm | hm
      · cases hm; exact ⟨_, _, _, s, ho, h1, h2, h3, h4, .refl _⟩
      · cases hm
    | alt ho h1 h2 h3 h4 h5 h6 =>
      rcases List.mem_cons.1 hm with hm | hm
      · cases hm; exact ⟨_, _, _, s, ho, h1, h2, h3, h4, .refl _⟩
      · obtain ⟨o, s1, s2, s', g1, g2, g3, g4, g5, g6⟩ := DrOk.alts h5 hm
        exact ⟨o, s1, s2, s', g1, g2, g3, g4, g5, h6.trans g6⟩
theorem getD_tf {listed : Array Bool} {i : Nat} (h : i < listed.size) : listed.getD i true = listed.getD i false := by simp [Array.getD, h]
theorem getD_set {listed : Array Bool} {i j : Nat} (hi : i < listed.size) (d : Bool) : (listed.setIfInBounds i true).getD j d = if i = j then true else listed.getD j d := by
  by_cases h : i = j
  · subst h; simp [Array.getD, hi]
  · rw [if_neg h]; exact getD_set_ne d h
theorem wpAny_stage {C : Cfg} {l : DT} {st s : St}
    (hA : ∀ {a re pu next}, (a, re, pu, next) ∈ alts l → ∃ o s1 s2 s', ops[a]? = some o ∧ Step1 C o (gval ops st o) st s1 ∧ evPu C.P ops pu s1 = some s2 ∧ reB C.P ops s2 re = true ∧ Rest C ops next s2 s' ∧ SLe C.P s s')
    (hN : l = .done → s = st) : Rest C ops l st s := by
  intro pl done X β0 w0 S0 Q hP hss hQ fuel
  induction fuel with
  | zero =>
    intro listed a w hsz hc hdp hlp hq hanc hpart hval hall
    have hl : ∀ i, i < ops.size → listed.getD i true = true := by
      intro i hi
      cases h : listed.getD i true with
      | true => rfl
      | false =>
        have : i ∈ (List.range ops.size).filter fun i => !listed.getD i true := by simp only [List.mem_filter, List.mem_range, h]; exact ⟨hi, rfl⟩
        have := List.length_pos_of_mem this
        unfold cnt at hc
        omega
    have hln : l = .done := by
      cases l with
      | done => rfl
      | alt x re pu next other =>
        obtain ⟨o, _, _, _, ho, _⟩ := hA (List.mem_cons_self ..)
        have h1 := hl x (Array.getElem?_eq_some_iff.1 ho).1
        rw [hpart x (by simp [part])] at h1
        cases h1
    refine ⟨?_, ?_⟩
    · rw [List.eq_nil_iff_forall_not_mem]
      intro i hi
      obtain ⟨h1, o, ho, _⟩ := mem_ready.1 hi
      rw [hl i (Array.getElem?_eq_some_iff.1 ho).1] at h1
      cases h1
    · refine hQ a w ?_
      obtain ⟨q', h1, h2⟩ := hq
      rw [hN hln]
      refine SimE.le (h1.sle ?_) h2
      rintro x ⟨i, _, o, ho, _, hli⟩
      rw [hl i (Array.getElem?_eq_some_iff.1 ho).1] at hli
      cases hli
  | succ fuel ih =>
    intro listed a w hsz hc hdp hlp hq hanc hpart hval hall
    have lt : ∀ {i : Nat} {o : Oper}, ops[i]? = some o → i < listed.size := fun h => by rw [hsz]; exact (Array.getElem?_eq_some_iff.1 h).1
    refine ⟨fun hr => ?_, fun i hi => ?_⟩
    · have hl : ∀ i, i < ops.size → listed.getD i true = true := fun i hi => ahead_listed hr hsz hP.ah (fun k hk => by cases hk) i (hP.mem i hi)
      have hln : l = .done := by
        cases l with
        | done => rfl
        | alt x re pu next other =>
          obtain ⟨o, _, _, _, ho, _⟩ := hA (List.mem_cons_self ..)
          have h1 := hl x (Array.getElem?_eq_some_iff.1 ho).1
          rw [hpart x (by simp [part])] at h1
          cases h1
      refine hQ a w ?_
      obtain ⟨q', h1, h2⟩ := hq
      rw [hN hln]
      refine SimE.le (h1.sle ?_) h2
      rintro x ⟨i, _, o, ho, _, hli⟩
      rw [hl i (Array.getElem?_eq_some_iff.1 ho).1] at hli
      cases hli
    · obtain ⟨hi1, o, ho, hi2⟩ := mem_ready.1 hi
      have hil := lt ho
      have hiA : ∀ k ∈ ancOf pl i, listed.getD k false = true := by
        intro k hk
        obtain ⟨e, he, hb, hh⟩ := hP.trans i o ho k hk
        have hle := hi2 e he hb
        rcases hh with rfl | hh
        · exact hle
        · exact hanc e.on hle k hh
      have hself : i ∉ ancOf pl i := fun hm => by
        have h1 := hiA i hm
        have h2 := getD_tf hil
        rw [hi1, h1] at h2
        cases h2
      have hlook : ∀ d ∈ o.looksAt ops, ¬ unl ops done listed d := by
        rintro d hd ⟨k, hkm, ok, hok, hkd, hkl⟩
        rcases hP.look i o ho k ok d hok hkd hd with hka | ⟨hke, _⟩
        case inr => exact hP.eff k hke (hdp k hkm)
        have h1 := hiA k hka
        have h2 := getD_tf (lt hok)
        rw [hkl, h1] at h2
        cases h2
      have hset : ∀ j d, (listed.setIfInBounds i true).getD j d = if i = j then true else listed.getD j d := fun j d => getD_set hil d
      have hsz' : (listed.setIfInBounds i true).size = ops.size := by simpa using hsz
      have hcnt : cnt ops.size (listed.setIfInBounds i true) ≤ fuel := by
        have : cnt ops.size (listed.setIfInBounds i true) < cnt ops.size listed := by
          unfold cnt
          refine filter_lt (i := i) (fun x hx => ?_) (by rw [hi1]; rfl) (by rw [hset, if_pos rfl]; rfl) _ (List.mem_range.2 (by rw [← hsz]; exact hil))
          rw [hset] at hx
          split at hx
          · cases hx
          · exact hx
        omega
      have hanc' : ∀ j, (listed.setIfInBounds i true).getD j false = true → ∀ k ∈ ancOf pl j, (listed.setIfInBounds i true).getD k false = true := by
        intro j hj k hk
        rw [hset] at hj ⊢
        split
        · rfl
        · split at hj
          · rename_i hij; subst hij; exact hiA k hk
          · exact hanc j hj k hk
      obtain ⟨q', hfr, hsim⟩ := hq
      have hgv : gval ops q' o = gval ops st o := gval_fr hfr hlook
      have hunl : ∀ x, unl ops done listed x → ¬ unl ops done (listed.setIfInBounds i true) x → o.dst = some x := by
        rintro x ⟨k, hkm, ok, hok, hkd, hkl⟩ hn
        by_cases hik : i = k
        · subst hik; rw [ho] at hok; cases hok; exact hkd
        · exact absurd ⟨k, hkm, ok, hok, hkd, by rw [hset, if_neg hik]; exact hkl⟩ hn
      rcases hall i (by rw [← hsz]; exact hil) with h | hd | hp
      · rw [hi1] at h; cases h
      ·
        obtain ⟨o', x, ho', hpv, hslot⟩ := hval i hd hi1
        rw [ho] at ho'; cases ho'
        have hpv' : pv C.P ops q' o = some x := by rw [pv_fr hfr hlook]; exact hpv
        have hput : ∃ q2, put q' x o.dst = some q2 := by
          cases hd : o.dst with
          | none => exact ⟨q', rfl⟩
          | some d =>
            obtain ⟨_, h2⟩ := hslot d hd
            refine ⟨{ t := (d, x) :: q'.t, o := q'.o, ks := q'.ks, n := q'.n, sz := q'.sz, u := q'.u, g := q'.g }, ?_⟩
            simp only [put]
            rw [hfr.sz, decide_eq_true h2]; rfl
        obtain ⟨q2, hq2⟩ := hput
        have hfr2 : Fr (unl ops done (listed.setIfInBounds i true)) st q2 := by
          obtain ⟨a1, a2, a3, a4, a5, a5g, a6, a7⟩ := put_back hq2
          refine ⟨a1.trans hfr.o, a2.trans hfr.ks, a3.trans hfr.n, a4.trans hfr.sz, a5.trans hfr.u, a5g.trans hfr.g, fun y hy => ?_⟩
          by_cases hyd : o.dst = some y
          · rw [(a7 y hyd).1, (hslot y hyd).1]
          · rw [a6 y hyd]
            exact hfr.t y (fun hu => hyd (hunl y hu hy))
        have next : ∀ a' w', SimE C.P X β0 w0 S0 q2 a' w' → wpAny C.P .any ops Q fuel (listed.setIfInBounds i true) a' w' := fun a' w' hs =>
          ih (listed.setIfInBounds i true) a' w' hsz' hcnt hdp hlp ⟨q2, hfr2, hs⟩ hanc'
            (fun j hj => by
              rw [hset]
              have hne : i ≠ j := by
                rintro rfl
                rcases ssOk_blocked hss i hj with hh | ⟨k, hk, hka⟩
                · obtain ⟨re, pu, next, hm⟩ := alts_heads hh
                  exact (ssOk_alts hss (V := part l) (fun u hu => by cases hu) (fun _ => rfl) hm).1.2.2.2 hd
                · have h1 := hiA k hka
                  have h2 := hpart k hk
                  by_cases hkl : k < listed.size
                  · rw [getD_tf hkl, h1] at h2; cases h2
                  · have : listed.getD k false = false := by simp [Array.getD, hkl]
                    rw [this] at h1; cases h1
              rw [if_neg hne]; exact hpart j hj)
            (fun j hj hjl => by
              rw [hset] at hjl
              split at hjl
              · cases hjl
              · exact hval j hj hjl)
            (fun j hj => by
              rw [hset]
              split
              · exact .inl rfl
              · exact hall j hj)
        unfold wpOp
        rw [ho]
        simp only []
        obtain ⟨S, β, h⟩ := hsim
        unfold pv at hpv'
        cases hg : gval ops q' o with
        | none => rw [hg] at hpv'; cases hpv'
        | some b =>
          rw [gval_sound h hg]
          rw [hg] at hpv'
          cases b with
          | false =>
            cases hpv'
            rw [if_neg (by simp)]
            exact next _ _ ⟨S, β, h.put (RV.tup (cs := []) (vs := #[]) rfl (fun i hi => absurd hi (by simp))) trivial hq2⟩
          | true =>
            rw [if_pos rfl]
            have hl : lop C.P q' o = some q2 := by
              simp only [pv1] at hpv'
              unfold lop
              cases hle : leff C.P q' o.op with
              | none => rw [hle] at hpv'; cases hpv'
              | some eff =>
                rw [hle] at hpv'
                cases eff with
                | box cs ty => cases hpv'
                | val y => cases hpv'; exact hq2
            obtain ⟨v, w', β', hrun, hs⟩ := lop_sound h hl
            refine .inl ?_
            unfold Oper.wp
            rw [hrun, Oper.upon_value]
            exact next _ _ ⟨S, β', hs⟩
      ·
        have hih : i ∈ heads l := by
          rcases ssOk_blocked hss i hp with hh | ⟨k, hk, hka⟩
          · exact hh
          · exfalso
            have h1 := hiA k hka
            have h2 := hpart k hk
            by_cases hkl : k < listed.size
            · rw [getD_tf hkl, h1] at h2; cases h2
            · have : listed.getD k false = false := by simp [Array.getD, hkl]
              rw [this] at h1; cases h1
        obtain ⟨re, pu, next', hm⟩ := alts_heads hih
        obtain ⟨ox, s1, s2, s', hox, hstep, hpu, hre, hrest, hsle⟩ := hA hm
        obtain ⟨⟨c1, c3, c4', c4b⟩, ⟨hV1, hV2⟩, c5⟩ := ssOk_alts hss (V := part l) (fun u hu => by cases hu) (fun _ => rfl) hm
        · rw [ho] at hox; cases hox
          have unlisted : ∀ j ∈ pu ++ part next', (listed.setIfInBounds i true).getD j true = false := by
            intro j hj
            have hne : i ≠ j := fun e => c4' (e ▸ hj)
            rw [hset, if_neg hne]
            exact hpart j (hV2 j (List.mem_cons_of_mem _ hj))
          obtain ⟨s1', hf1, hs1⟩ := hstep (unl ops done listed) q' hfr (off_of hlook)
          obtain ⟨k0, k1, k2⟩ := hs1 X β0 w0 S0 a w hsim
          have hf2 := evPu_fr hpu
          have hfr2 : Fr (unl ops (done ++ pu) (listed.setIfInBounds i true)) s2 s1' := by
            refine ⟨hf1.o.trans hf2.o, hf1.ks.trans hf2.ks, hf1.n.trans hf2.n, hf1.sz.trans hf2.sz, hf1.u.trans hf2.u, hf1.g.trans hf2.g, fun y hy => ?_⟩
            rw [hf1.t y (fun ⟨hu, hd⟩ => hd (hunl y hu (fun ⟨j, hj, hh⟩ => hy ⟨j, List.mem_append_left _ hj, hh⟩)))]
            refine hf2.t y ?_
            rintro ⟨j, hj, oj, hoj, hjd⟩
            exact hy ⟨j, List.mem_append_right _ hj, oj, hoj, hjd, unlisted j (List.mem_append_left _ hj)⟩
          have next : ∀ a' w', SimE C.P X β0 w0 S0 s1' a' w' → wpAny C.P .any ops Q fuel (listed.setIfInBounds i true) a' w' := fun a' w' hs =>
            hrest pl (done ++ pu) X β0 w0 S0 Q hP c5 (fun a w hs => hQ a w (hsle X β0 w0 S0 a w hs)) fuel (listed.setIfInBounds i true) a' w' hsz' hcnt (fun k hk => (List.mem_append.1 hk).elim (hdp k) (fun h => hlp k (alts_pus hm k (.inl h)))) (fun j hj => hlp j (alts_pus hm j (.inr hj))) ⟨s1', hfr2, hs⟩ hanc'
              (fun j hj => unlisted j (List.mem_append_right _ hj))
              (fun j hj hjl => by
                rcases List.mem_append.1 hj with hj | hj
                · rcases c1 j hj with h | h
                  · exfalso
                    have h1 := hiA j h
                    rw [hset] at hjl
                    split at hjl
                    · cases hjl
                    · by_cases hjs : j < listed.size
                      · rw [getD_tf hjs, h1] at hjl; cases hjl
                      · have : listed.getD j false = false := by simp [Array.getD, hjs]
                        rw [this] at h1; cases h1
                  · exact reB_valid hre j h
                · exact evPu_valid hP hpu c3 (fun k hk => hlp k (alts_pus hm k (.inl hk))) j hj)
              (fun j hj => by
                rw [hset]
                split
                · exact .inl rfl
                · rename_i hne
                  rcases hall j hj with h | h | h
                  · exact .inl h
                  · exact .inr (.inl (List.mem_append_left _ h))
                  · rcases List.mem_cons.1 (hV1 j h) with h | h
                    · exact absurd h.symm hne
                    · rcases List.mem_append.1 h with h | h
                      · exact .inr (.inl (List.mem_append_right _ h))
                      · exact .inr (.inr h))
          unfold wpOp
          rw [ho]
          simp only []
          obtain ⟨S, β, h⟩ := hsim
          cases hg : gval ops q' o with
          | none => rw [hgv] at hg; exact absurd hg k0
          | some b =>
            rw [gval_sound h hg]
            rw [hgv] at hg
            cases b with
            | true => rw [if_pos rfl]; exact .inl (Oper.wp_mono next (k1 hg Q))
            | false => rw [if_neg (by simp)]; exact next _ _ (k2 hg)
theorem alts_size : ∀ {l : DT} {a : Nat} {re pu : List Nat} {next : DT}, (a, re, pu, next) ∈ alts l → SizeOf.sizeOf next < SizeOf.sizeOf l
  | .alt a re pu next other, _, _, _, _, h => by
    rcases List.mem_cons.1 h with h | h
    · cases h; simp; omega
    · have := alts_size h
      simp; omega
theorem DrOk.rest {C : Cfg} {l : DT} {st s : St} (h : DrOk C ops l st s) : Rest C ops l st s := by
  have key : ∀ (n : Nat) (l : DT) (st s : St), SizeOf.sizeOf l < n → DrOk C ops l st s → Rest C ops l st s := by
    intro n
    induction n with
    | zero => exact fun _ _ _ h => absurd h (Nat.not_lt_zero _)
    | succ n ih =>
      intro l st s hn h
      refine wpAny_stage (fun {a re pu next} hm => ?_) (fun e => ?_)
      · obtain ⟨o, s1, s2, s', g1, g2, g3, g4, g5, g6⟩ := h.alts hm
        exact ⟨o, s1, s2, s', g1, g2, g3, g4, ih _ _ _ (by have := alts_size hm; omega) g5, g6⟩
      · subst e; cases h; rfl
  exact key _ l st s (Nat.lt_succ_self _) h
theorem eqAt_iff {α : Type} {a b : List (Nat × α)} : ∀ {l : List Nat}, eqAt a b l → ∀ i ∈ l, lk i a = lk i b
  | [], _, i, hi => by cases hi
  | j :: l, h, i, hi => by
    rcases List.mem_cons.1 hi with rfl | hi
    · exact h.1
    · exact eqAt_iff h.2 i hi
theorem allIn_iff {l : List Nat} : ∀ {r : List Nat}, allIn l r = true → ∀ k ∈ r, k ∈ l
  | [], _, k, hk => by cases hk
  | j :: r, h, k, hk => by
    simp only [allIn, Bool.and_eq_true] at h
    rcases List.mem_cons.1 hk with rfl | hk
    · exact hasKey_iff.1 h.1
    · exact allIn_iff h.2 k hk
theorem keysA_lk {α : Type} {i : Nat} {x : α} : ∀ {l : List (Nat × α)}, lk i l = some x → i ∈ keysA l
  | [], h => by cases h
  | (j, y) :: l, h => by
    by_cases hij : i = j
    · subst hij; exact List.mem_cons_self ..
    · rw [lk_cons_ne _ _ hij] at h; exact List.mem_cons_of_mem _ (keysA_lk h)
theorem same_sle {s t r : St} (h : sameO s t = some r) : r = s ∧ SLe P s t := by
  unfold sameO at h
  split at h
  · rename_i hp
    cases h
    obtain ⟨⟨h1, h2⟩, h3, h4, h5, h6, h7, h8, h9⟩ := hp
    refine ⟨rfl, ?_⟩
    have ht : ∀ i tv, lk i s.t = some tv → lk i t.t = some tv := fun i tv hl => by rw [← eqAt_iff h1 i (keysA_lk hl)]; exact hl
    have ho : ∀ i ob, lk i s.o = some ob → lk i t.o = some ob := fun i ob hl => by rw [← eqAt_iff h2 i (keysA_lk hl)]; exact hl
    have ks : ∀ k, k ∈ t.ks → k ∈ s.ks := allIn_iff h5
    rintro X β0 w0 S0 a w ⟨S, β, h⟩
    refine ⟨S, β, h.kn, h.dfr, by rw [h7]; exact h.size, ?_, ?_, ?_, ?_, ?_, h.bnd, h.sub, h.new, h.below, by rw [h6]; exact h.n, h.fix, ?_, by rw [h9]; exact h.tk⟩
    · intro i tv hl
      obtain ⟨v, g1, g2, g3⟩ := h.tmps i tv (ht i tv hl)
      exact ⟨v, g1, g2, TV.ok_mono ks g3⟩
    · intro k ob hl
      obtain ⟨g1, g2, g3⟩ := h.objs k ob (ho k ob hl)
      exact ⟨g1, okO_mono ks g2, ks k g3⟩
    · exact fun k ob hl => h.own k ob (ho k ob hl)
    · exact fun k k' ob ob' hl hl' => h.inj k k' ob ob' (ho k ob hl) (ho k' ob' hl')
    · exact fun k ob hl => h.sep k ob (ho k ob hl)
    · intro b o hb
      rw [h8] at hb
      obtain ⟨a1, a2, a3, a4⟩ := h.gh b o hb
      exact ⟨a1, a2, fun k ob hl => a3 k ob (ho k ob hl), a4⟩
  · cases h
end
end Go.Av
end
