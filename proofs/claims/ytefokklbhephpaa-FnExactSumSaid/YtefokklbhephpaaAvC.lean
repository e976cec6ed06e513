/- The abstract machine: regions, loops, functions; and the rules by which it is reckoned. -/
import Derived.Orders
import Derived.Test.YtefokklbhephpaaAvB
set_option linter.unusedVariables false
set_option linter.unusedSimpArgs false

namespace Go.Av
section
variable {P : Program} {X : Nat → Prop} {w0 w w' : World} {S0 S S' : Stable} {st st' : St} {a : Act} {β β' : Places}

theorem shape_new (o : Array Value) (el : TypeId) : (w.alloc (.cells o el)).shape? w.heap.size = some (el, o.size) := by
  unfold World.shape?
  show (match (w.heap.push _)[w.heap.size]? with | some (.cells c elem _) => some (elem, c.size) | _ => none) = _
  simp

def bytesWorld (w : World) (el : TypeId) (x : ByteArray) (cap : Nat) : World :=
  (w.drew.alloc (.cells (x.data.map (fun b => .int .u8 b.toNat) ++ Array.replicate (cap - x.size) (.int .u8 0)) el)).freeze ⟨w.heap.size, x.data.size + (cap - x.size), none⟩ 1

theorem run_stringToBytes {el : TypeId} {x : ByteArray} : ∃ cap, x.size ≤ cap ∧ (Conv.stringToBytes el x).run P w =
    .ok (.slice (some ⟨w.heap.size, 0, none⟩) x.size cap) (bytesWorld w el x cap) := by
  refine ⟨(Question.appendCap x.size 0 el).cut (w.tape w.drawn (.appendCap x.size 0 el)), by simp [Question.cut], ?_⟩
  unfold Conv.stringToBytes markStringish bytesWorld
  simp only [Sem.run_bind, run_choose, Question.forced, Bool.false_eq_true, if_false, Result.andThen_ok, newRow, run_newObj, Sem.run_pure, run_shape, World.drew_eq, World.alloc_eq]
  have := shape_new (w := w.drew) (x.data.map (fun b => Value.int .u8 b.toNat) ++ Array.replicate ((Question.appendCap x.size 0 el).cut (w.tape w.drawn (.appendCap x.size 0 el)) - x.size) (.int .u8 0)) el
  rw [this]
  simp only [run_freeze, Result.andThen_ok, Array.size_append, Array.size_map, Array.size_replicate]
  rfl

theorem freeze_heap {b o n k : Nat} (h : k ≠ b) : (w.freeze ⟨b, o, none⟩ n).heap[k]? = w.heap[k]? := by
  unfold World.freeze
  split
  · rfl
  · simp only [Array.getElem?_modify]
    rw [if_neg (fun e => h e.symm)]

theorem freeze_cell {b o n k x : Nat} : (w.freeze ⟨b, o, none⟩ n).cell? ⟨k, x, none⟩ = w.cell? ⟨k, x, none⟩ := by
  by_cases h : k = b
  · subst h
    unfold World.freeze
    split
    · rfl
    · simp only [World.cell?, Array.getElem?_modify, if_true]
      cases w.heap[k]? with
      | none => rfl
      | some z => cases z <;> rfl
  · simp only [World.cell?, freeze_heap h]

theorem freeze_size {b o n : Nat} : (w.freeze ⟨b, o, none⟩ n).heap.size = w.heap.size := by
  unfold World.freeze; split <;> simp

/-- New cells, never written again. -/
theorem Sim.fresh (h : Sim P X w0 S0 st a w S β) (hb : Go.RowKit.Below w.heap.size w w') (hs : w.heap.size < w'.heap.size) :
    Sim P X w0 S0 (Av.setN st (w.heap.size + 1)) a w' (fun b x => S b x ∨ b = w.heap.size) β := by
  have hx : Ext w S w' (fun b x => S b x ∨ b = w.heap.size) := by
    refine ⟨fun _ _ h => .inl h, fun b x hh => ?_, fun b x hh => ?_, hb⟩
    · rcases hh with hh | hh
      · exact .inl hh
      · exact .inr (by omega)
    · rcases hh with hh | hh
      · have := h.bnd b x hh; omega
      · omega
  exact (h.ext hx).setN hs

theorem aop_sound (h : Sim P X w0 S0 st a w S β) {R : St → Prop} {o : Oper} (e : aop P R st o o.op) (Q : Exit → Act → World → Prop) :
    o.wp P a w (fun a' w' => ∃ st', R st' ∧ SimE P X w0 S0 st' a' w') Q := by
  have other : onSt R (lop P st o) → o.wp P a w (fun a' w' => ∃ st', R st' ∧ SimE P X w0 S0 st' a' w') Q := by
    intro e
    obtain ⟨st', he, hR⟩ := onSt_iff e
    obtain ⟨v, w', β', hrun, hs⟩ := lop_sound h he
    unfold Oper.wp
    rw [hrun, Oper.upon_value]
    exact ⟨st', hR, S, β', hs⟩
  cases hop : o.op with
  | store t x v =>
    rw [hop] at e
    obtain ⟨st2, he, hR⟩ := onSt_iff e
    obtain ⟨st1, h1, h2⟩ := ob_eq_some he
    unfold astore at h1
    obtain ⟨new, hn, h1⟩ := ob_eq_some h1
    obtain ⟨_, hz, h1⟩ := ob_eq_some h1
    obtain ⟨g1, g2, g3⟩ := cellsOf_sound (evc_sound h v).1 (evc_sound h v).2 hn
    obtain ⟨w', hrun, S', β', hs⟩ := storeAt_sound h (of_decide_eq_true (chk_eq_some hz)) (evc_sound h x).1 g1 g2 g3 h1
    unfold Oper.wp
    have : (execOp a.eval o).run P w = .ok .skip w' := by
      unfold execOp
      rw [hop]
      simp only [Sem.run_bind, hrun, Result.andThen_ok, Sem.run_pure]
    rw [this, Oper.upon_skip]
    exact ⟨st2, hR, S', β', hs.put (.unk _) trivial h2⟩
  | call c =>
    rw [hop] at e
    simp only [aop] at e
    cases hc : c.callee with
    | value f => rw [hc] at e; exact acall_sound h hop hc e Q
    | invoke r m => rw [hc] at e; exact other e
    | builtin b => rw [hc] at e; exact other e
  | convert src d x =>
    rw [hop] at e
    simp only [aop] at e
    cases hti : tyInt P d with
    | some k => rw [hti] at e; exact other e
    | none =>
      rw [hti] at e
      have hx := (evc_sound h x).1
      generalize evc st x = tv at e hx
      cases tv <;> try (exact e.elim)
      rename_i tt
      cases tt <;> try (exact e.elim)
      rename_i s
      have hx := rv_str hx
      obtain ⟨h1, h2, h3⟩ := e
      obtain ⟨el, h4, h5⟩ := Option.bind_eq_some_iff.1 h2
      obtain ⟨cap, hcap, hrun⟩ := run_stringToBytes (P := P) (w := w) (el := el) (x := s)
      obtain ⟨st', he, hR⟩ := onSt_iff (h3 w.heap.size h.n)
      have hexec : (execOp a.eval o).run P w = .ok (.value (.slice (some ⟨w.heap.size, 0, none⟩) s.size cap)) (bytesWorld w el s cap) := by
        unfold execOp
        rw [hop]
        simp only [Sem.run_bind, hx, convert, underlying, run_program, Result.andThen_ok, tyStr_eq h1, tyElem_eq h4, Sem.run_pure, tyInt_eq h5]
        rw [hrun]
        rfl
      unfold Oper.wp
      rw [hexec, Oper.upon_value]
      let wn := bytesWorld w el s cap
      have hsz : wn.heap.size = w.heap.size + 1 := by
        show (World.freeze _ _ _).heap.size = _
        rw [freeze_size]
        simp
      have hblock : ∀ k, k < w.heap.size → wn.heap[k]? = w.heap[k]? := by
        intro k hk
        show (World.freeze _ _ _).heap[k]? = _
        rw [freeze_heap (by omega), Go.RowKit.Below.heap_alloc _ _ _ (by simpa using hk)]
        rfl
      have hbel : Go.RowKit.Below w.heap.size w wn := by
        refine ⟨?_, ?_, ?_, by omega, hblock⟩ <;> (show _ = _; simp only [wn, bytesWorld, World.freeze]; split <;> rfl)
      have hcell : ∀ i (hi : i < s.data.size), wn.cell? ⟨w.heap.size, i, none⟩ = some (.int .u8 (s.data[i]).toNat) := by
        intro i hi
        show (World.freeze _ _ _).cell? _ = _
        rw [freeze_cell]
        have : w.drew.heap.size = w.heap.size := rfl
        rw [← this, World.cell?_alloc_new, Array.getElem?_append_left (by simpa using hi), Array.getElem?_map, Array.getElem?_eq_getElem hi]
        rfl
      have hs := h.fresh hbel (by omega)
      refine ⟨st', hR, _, _, hs.put (x := .d (.sl w.heap.size (bytesT s))) (.d ?_) trivial he⟩
      have hlen : s.size = (bytesT s).length := by simp [bytesT]
      rw [hlen]
      cases hb : bytesT s with
      | nil => exact .nil _ _ _
      | cons y ys =>
        rw [← hb]
        refine .sl _ _ w.heap.size 0 1 cap (fun i _ => .int .u8 ((s.data[i]?).getD 0).toNat) (.inr rfl) ?_ (by rw [← hlen]; exact hcap) (fun _ _ _ _ => .inr rfl) ?_ ?_
        · intro e he
          simp only [bytesT, List.mem_map] at he
          obtain ⟨_, _, rfl⟩ := he
          rfl
        · intro i j hi hj
          have hi' : i < s.data.size := by simpa [bytesT] using hi
          have hj' : j = 0 := by simpa [bytesT] using hj
          subst hj'
          rw [show 0 + i * 1 + 0 = i by omega, hcell i hi', Array.getElem?_eq_getElem hi']
          rfl
        · intro i j hi hj
          have hi' : i < s.data.size := by simpa [bytesT] using hi
          have hj' : j = 0 := by simpa [bytesT] using hj
          subst hj'
          simp only [bytesT, List.getElem_map, List.getElem_cons_zero, Array.getElem_toList]
          simp only [Array.getElem?_eq_getElem hi', Option.getD_some]
          exact .i _ _
  | _ => rw [hop] at e; exact other e

theorem gval_sound (h : Sim P X w0 S0 st a w S β) {ops : Array Oper} {o : Oper} {g : Bool} (e : gval ops st o = some g) : Region.wanted o (yielded ops a.tmps) = g := by
  unfold gval at e
  unfold Region.wanted
  cases hg : o.guard with
  | none => rw [hg] at e; cases e; rfl
  | some jw =>
    obtain ⟨j, want⟩ := jw
    rw [hg] at e
    obtain ⟨oj, h1, e⟩ := ob_eq_some e
    obtain ⟨d, h2, e⟩ := ob_eq_some e
    obtain ⟨b, h3, e⟩ := ob_eq_some e
    cases e
    have := boolOfTV_sound (evc_sound h (.tmp d)).1 h3
    simp only [Act.eval] at this
    have hd : a.tmps[d]? = some (.bool b) := by
      rw [Array.getD_eq_getD_getElem?] at this
      cases hx : a.tmps[d]? with
      | none => rw [hx] at this; cases this
      | some x => rw [hx] at this; simpa using this
    have hy : yielded ops a.tmps j = some b := by simp [yielded, h1, h2, hd]
    simp only [hy]
    cases b <;> cases want <;> rfl

theorem aop1_sound {ops : Array Oper} {R : St → Prop} {i : Nat} (h : SimE P X w0 S0 st a w) (e : aop1 P ops R st (ops[i]?)) (Q : Exit → Act → World → Prop) :
    wpOp P ops Q i (fun a' w' => ∃ st', R st' ∧ SimE P X w0 S0 st' a' w') a w := by
  obtain ⟨S, β, h⟩ := h
  unfold wpOp
  cases ho : ops[i]? with
  | none => rw [ho] at e; exact e.elim
  | some o =>
    rw [ho] at e
    simp only [aop1] at e
    simp only []
    cases hg : gval ops st o with
    | none => rw [hg] at e; exact e.elim
    | some g =>
      rw [hg] at e
      rw [gval_sound h hg]
      cases g with
      | true => rw [if_pos rfl]; exact .inl (aop_sound h e Q)
      | false =>
        rw [if_neg (by simp)]
        obtain ⟨st', he, hR⟩ := onSt_iff e
        exact ⟨st', hR, S, β, h.put (.unk _) trivial he⟩

theorem aops_sound {ops : Array Oper} {K : St → Prop} {Q : Exit → Act → World → Prop} (hQ : ∀ a w, (∃ st, K st ∧ SimE P X w0 S0 st a w) → Q .normal a w) :
    ∀ (l : List Nat) (st : St) (a : Act) (w : World), aops P ops K l st → SimE P X w0 S0 st a w → wpOps P ops Q l a w := by
  intro l
  induction l with
  | nil => exact fun st a w hk h => hQ a w ⟨st, hk, h⟩
  | cons i l ih =>
    intro st a w hk h
    rw [wpOps_cons]
    refine wpOp_mono ?_ (aop1_sound h hk Q)
    rintro a' w' ⟨st', hR, hs⟩
    exact ih st' a' w' hR hs

/-- The abstract form of 'Code.wp'. -/
def aw (P : Program) (c : Code) (Q : Exit → St → Prop) (st : St) : Prop :=
  ∀ (X : Nat → Prop) (w0 : World) (S0 : Stable) (a : Act) (w : World), SimE P X w0 S0 st a w → c.wp P (fun e a' w' => ∃ st', Q e st' ∧ SimE P X w0 S0 st' a' w') a w

def thn (K : St → Prop) (Q : Exit → St → Prop) : Exit → St → Prop
  | .normal, st => K st
  | e, st => Q e st

variable {Q : Exit → St → Prop}

theorem aw_seq_k {x y : Code} (h : ∀ K : St → Prop, (∀ st, aw P y Q st → K st) → aw P x (thn K Q) st) : aw P (.seq x y) Q st := by
  intro X w0 S0 a w hs
  refine wp_seq (wp_mono (h (aw P y Q) (fun _ h => h) X w0 S0 a w hs) ?_)
  rintro e a' w' ⟨st', hq, hs'⟩
  cases e with
  | normal => exact hq X w0 S0 a' w' hs'
  | _ => exact ⟨st', hq, hs'⟩

def aopsN (P : Program) (ops : Array Oper) (K : St → Prop) : Nat → Nat → St → Prop
  | 0, _, st => K st
  | n + 1, i, st => aop1 P ops (aopsN P ops K n (i + 1)) st (ops[i]?)

theorem aopsN_eq (P : Program) (ops : Array Oper) (K : St → Prop) : ∀ (n i : Nat) (st : St), aopsN P ops K n i st = aops P ops K (List.range' i n) st := by
  intro n
  induction n with
  | zero => intro i st; rfl
  | succ n ih =>
    intro i st
    simp only [aopsN, List.range'_succ, aops]
    congr 1
    funext st'
    exact ih (i + 1) st'

theorem aw_region {id : Nat} {ops : Array Oper} (h : aopsN P ops (Q .normal) ops.size 0 st) : aw P (.region id ops false) Q st := by
  intro X w0 S0 a w hs
  refine wp_region ?_
  rw [aopsN_eq, ← List.range_eq_range'] at h
  exact aops_sound (K := Q .normal) (fun a w hh => hh) _ st a w h hs

theorem aw_cond {c : Operand} {x y : Code} {t : Bool} (hc : boolOfTV (evc st c) = some t) (h1 : t = true → aw P x Q st) (h2 : t = false → aw P y Q st) : aw P (.cond c x y) Q st := by
  intro X w0 S0 a w hs
  obtain ⟨S, β, hs⟩ := hs
  have := boolOfTV_sound (evc_sound hs c).1 hc
  exact wp_cond_split this (fun e => h1 e X w0 S0 a w ⟨S, β, hs⟩) (fun e => h2 e X w0 S0 a w ⟨S, β, hs⟩)

def inB (id : Nat) (Q : Exit → St → Prop) : Exit → St → Prop
  | .exit id', st => if id' = id then Q .normal st else Q (.exit id') st
  | e, st => Q e st

theorem aw_block {id : Nat} {c : Code} (h : aw P c (inB id Q) st) : aw P (.block id c) Q st := by
  intro X w0 S0 a w hs
  refine wp_block (wp_mono (h X w0 S0 a w hs) ?_)
  rintro e a' w' ⟨st', hq, hs'⟩
  cases e with
  | exit id' =>
    simp only [inB, Exit.inBlock] at hq ⊢
    split
    · rename_i he; rw [if_pos he] at hq; exact ⟨st', hq, hs'⟩
    · rename_i he; rw [if_neg he] at hq; exact ⟨st', hq, hs'⟩
  | _ => exact ⟨st', hq, hs'⟩

theorem aw_skip (h : Q .normal st) : aw P .skip Q st := fun _ _ _ _ _ hs => wp_skip ⟨st, h, hs⟩
theorem aw_exit {id : Nat} (h : Q (.exit id) st) : aw P (.exit id) Q st := fun _ _ _ _ _ hs => wp_exit ⟨st, h, hs⟩
theorem aw_ret (h : Q .ret st) : aw P .ret Q st := fun _ _ _ _ _ hs => wp_ret ⟨st, h, hs⟩

/-- Less is known of the one than of the other. -/
def SLe (P : Program) (s1 s : St) : Prop := ∀ (X : Nat → Prop) (w0 : World) (S0 : Stable) (a : Act) (w : World), SimE P X w0 S0 s a w → SimE P X w0 S0 s1 a w
theorem SLe.refl (s : St) : SLe P s s := fun _ _ _ _ _ h => h

theorem aw_weaken {c : Code} {s1 : St} (hl : SLe P s1 st) (h : aw P c Q s1) : aw P c Q st := fun X w0 S0 a w hs => h X w0 S0 a w (hl X w0 S0 a w hs)

def lp (P : Program) (I : Nat → St → Prop) (n : Nat) (Q : Exit → St → Prop) : Exit → St → Prop
  | .normal, st => ∃ m s1, m < n ∧ SLe P s1 st ∧ I m s1
  | e, st => Q e st

theorem wp_loop_ix {c : Code} {Q : Exit → Act → World → Prop} (I : Nat → Act → World → Prop) (n : Nat) (h₀ : I n a w)
    (round : ∀ n a w, I n a w → c.wp P (Exit.then (fun a' w' => ∃ m, m < n ∧ I m a' w') Q) a w) : (Code.loop c).wp P Q a w := by
  intro b k cs
  have key : ∀ n a w, I n a w →
      ∃ e a' w', Q e a' w' ∧ Arrives P (lone (b.at a (.code c :: .inLoop c :: k)) cs w) b k cs e a' w' := by
    intro n
    induction n using Nat.strongRecOn with
    | _ n ih =>
      intro a w hI
      obtain ⟨e, a₁, w₁, hq, harr⟩ := round n a w hI b (.inLoop c :: k) cs
      cases e with
      | normal =>
        obtain ⟨m, hlt, hI₁⟩ := hq
        obtain ⟨e₂, a₂, w₂, hq₂, harr₂⟩ := ih m hlt a₁ w₁ hI₁
        exact ⟨e₂, a₂, w₂, hq₂, .of_steps (Steps.trans harr (.one step_inLoop)) harr₂⟩
      | exit id => exact ⟨_, a₁, w₁, hq, .pass (x := .inLoop c) rfl (fun _ _ => .inl (by simp)) harr⟩
      | goto l => exact ⟨_, a₁, w₁, hq, .pass (x := .inLoop c) rfl (fun _ _ => .inl (by simp)) harr⟩
      | ret => exact ⟨_, a₁, w₁, hq, .pass (x := .inLoop c) rfl (fun _ _ => .inl (by simp)) harr⟩
      | panic ch => exact ⟨_, a₁, w₁, hq, .pass (x := .inLoop c) rfl (fun _ _ => .inl (by simp)) harr⟩
      | outgrown => exact ⟨_, a₁, w₁, hq, .pass (x := .inLoop c) rfl (fun _ _ => .inl (by simp)) harr⟩
  obtain ⟨e, a', w', hq, harr⟩ := key n a w h₀
  exact ⟨e, a', w', hq, .of_steps (.one step_loop) harr⟩

theorem aw_loop {c : Code} (I : Nat → St → Prop) (n : Nat) {s1 : St} (hl : SLe P s1 st) (h₀ : I n s1) (round : ∀ n st, I n st → aw P c (lp P I n Q) st) : aw P (.loop c) Q st := by
  intro X w0 S0 a w hs
  refine wp_loop_ix (fun n a w => ∃ st, I n st ∧ SimE P X w0 S0 st a w) n ⟨s1, h₀, hl X w0 S0 a w hs⟩ ?_
  rintro n a w ⟨st, hI, hs⟩
  refine wp_mono (round n st hI X w0 S0 a w hs) ?_
  rintro e a' w' ⟨st', hq, hs'⟩
  cases e with
  | normal =>
    obtain ⟨m, s2, hm, hl2, hI2⟩ := hq
    exact ⟨m, hm, s2, hI2, hl2 X w0 S0 a' w' hs'⟩
  | _ => exact ⟨st', hq, hs'⟩

/-- A state that names some of the slots and objects of another one. -/
theorem SLe.of {s1 s : St} (ht : ∀ i tv, lk i s1.t = some tv → lk i s.t = some tv ∧ tv.ok (· ∈ s1.ks)) (ho : ∀ k ob, lk k s1.o = some ob → lk k s.o = some ob ∧ ob.okO (· ∈ s1.ks) ∧ k ∈ s1.ks)
    (hn : s1.n ≤ s.n) (hz : s1.sz = s.sz) : SLe P s1 s := by
  rintro X w0 S0 a w ⟨S, β, h⟩
  refine ⟨S, β, h.dfr, by rw [hz]; exact h.size, ?_, ?_, ?_, ?_, ?_, h.bnd, h.sub, h.new, h.below, Nat.le_trans hn h.n⟩
  · intro i tv hl
    obtain ⟨h1, h2⟩ := ht i tv hl
    obtain ⟨v, hv, hr, _⟩ := h.tmps i tv h1
    exact ⟨v, hv, hr, h2⟩
  · intro k ob hl
    obtain ⟨h1, h2, h3⟩ := ho k ob hl
    exact ⟨(h.objs k ob h1).1, h2, h3⟩
  · exact fun k ob hl => h.own k ob (ho k ob hl).1
  · exact fun k k' ob ob' h1 h2 => h.inj k k' ob ob' (ho k ob h1).1 (ho k' ob' h2).1
  · exact fun k ob hl => h.sep k ob (ho k ob hl).1
end
end Go.Av

namespace Go.Av
section
variable {P : Program} {X : Nat → Prop} {w0 w w' : World} {S0 S S' : Stable} {st st' : St} {a : Act} {β β' : Places}

def argT : Nat → List TV → List (Nat × TV)
  | _, [] => []
  | i, x :: xs => (i, x) :: argT (i + 1) xs
def init (args : List TV) (sz n : Nat) : St := { t := argT 0 args, o := [], ks := [], n := n, sz := sz }

def ares (P : Program) (st : St) : List ResultVar → Option (List TV)
  | [] => some []
  | .tmp t :: l => ob (ares P st l) fun r => some (evc st (.tmp t) :: r)
  | .cell x t :: l => ob (tyAgg P t) fun ag => ob (loadAt ag (tySize P t) st (evc st (.tmp x))) fun v => ob (ares P st l) fun r => some (v :: r)
def afin : List TV → TV
  | [x] => x
  | l => .tup l

def LeL (P : Program) (st : St) (xs ys : List TV) : Prop := xs.length = ys.length ∧ ∀ i (hi : i < xs.length) (hj : i < ys.length), Le P st xs[i] ys[i]

def afinish2 (P : Program) (st : St) (post : Nat → TV → Prop) : Option (List TV) → Prop
  | some rs => ∃ rs', LeL P (frz st (ownKeysL rs)) rs rs' ∧ ∀ n, st.n ≤ n → post n (afin rs')
  | none => False
def afinish (P : Program) (rv : List ResultVar) (st : St) (post : Nat → TV → Prop) : Prop := afinish2 P st post (ares P st rv)

def fin (P : Program) (rv : List ResultVar) (post : Nat → TV → Prop) : Exit → St → Prop
  | .normal, st => afinish P rv st post
  | .ret, st => afinish P rv st post
  | _, _ => False

theorem lk_argT : ∀ (l : List TV) (i j : Nat) (tv : TV), lk j (argT i l) = some tv → i ≤ j ∧ l[j - i]? = some tv := by
  intro l
  induction l with
  | nil => intro i j tv h; cases h
  | cons x l ih =>
    intro i j tv h
    by_cases hj : j = i
    · subst hj
      simp only [argT, lk_cons_eq] at h
      cases h
      simp
    · simp only [argT, lk_cons_ne _ _ hj] at h
      obtain ⟨h1, h2⟩ := ih (i + 1) j tv h
      refine ⟨by omega, ?_⟩
      rw [show j - i = (j - (i + 1)) + 1 by omega]
      simpa using h2

def resOne (tmps : Array Value) : ResultVar → Sem Value
  | .tmp t => pure (tmps.getD t undef)
  | .cell x t => do loadVar t (← asAddr (tmps.getD x undef))

theorem results_eq (fn : Func) (tmps : Array Value) : results fn tmps = (do
    let vs ← fn.results.mapM (resOne tmps)
    pure (if h : vs.size = 1 then vs[0] else .tuple vs)) := by
  unfold results
  congr 1

theorem run_ares (h : Sim P X w0 S0 st a w S β) : ∀ (l : List ResultVar) (rs : List TV), ares P st l = some rs →
    ∃ vs : List Value, (l.mapM (resOne a.tmps)).run P w = .ok vs w ∧ rs.length = vs.length ∧
      (∀ i (hi : i < rs.length) (hj : i < vs.length), RV P w S β rs[i] vs[i]) ∧ okL (· ∈ st.ks) rs := by
  intro l
  induction l with
  | nil => intro rs e; cases e; exact ⟨[], rfl, rfl, fun i hi => absurd hi (by simp), trivial⟩
  | cons r l ih =>
    intro rs e
    have key : ∀ (x : TV) (v : Value) (rs' : List TV), RV P w S β x v → x.ok (· ∈ st.ks) → ares P st l = some rs' → rs = x :: rs' →
        (resOne a.tmps r).run P w = .ok v w →
        ∃ vs : List Value, ((r :: l).mapM (resOne a.tmps)).run P w = .ok vs w ∧ rs.length = vs.length ∧
          (∀ i (hi : i < rs.length) (hj : i < vs.length), RV P w S β rs[i] vs[i]) ∧ okL (· ∈ st.ks) rs := by
      rintro x v rs' hr ho hrs rfl hrun
      obtain ⟨vs, h1, h2, h3, h4⟩ := ih rs' hrs
      refine ⟨v :: vs, ?_, by simp [h2], ?_, ho, h4⟩
      · simp only [List.mapM_cons, Sem.run_bind, hrun, Result.andThen_ok, h1, Sem.run_pure]
      · intro i hi hj
        cases i with
        | zero => simpa using hr
        | succ i => simpa using h3 i (by simpa using hi) (by simpa using hj)
    cases r with
    | tmp t =>
      simp only [ares] at e
      obtain ⟨rs', hrs, e⟩ := ob_eq_some e
      exact key _ _ rs' (evc_sound h (.tmp t)).1 (evc_sound h (.tmp t)).2 hrs (by cases e; rfl) rfl
    | cell x t =>
      simp only [ares] at e
      obtain ⟨ag, hag, e⟩ := ob_eq_some e
      obtain ⟨v, hv, e⟩ := ob_eq_some e
      obtain ⟨rs', hrs, e⟩ := ob_eq_some e
      obtain ⟨u, hu, hr, ho⟩ := loadAt_sound h hag (evc_sound h (.tmp x)).1 hv
      refine key v u rs' hr ho hrs (by cases e; rfl) ?_
      have ha : a.eval (.tmp x) = a.tmps.getD x undef := rfl
      rw [ha] at hu
      simp only [resOne, Sem.run_bind]
      generalize a.tmps.getD x undef = z at hu
      cases z with
      | pointer p =>
        cases p with
        | some p => simpa [asAddr, Instr.loadAt, Instr.sureAddr] using hu
        | none => simp [Instr.loadAt, Instr.sureAddr] at hu
      | _ => simp [Instr.loadAt, Instr.sureAddr] at hu

theorem AP.of {f : FuncId} {fn : Func} {c : Code} {args : List TV} {post : Nat → Nat → TV → Prop} (hf : P.funcs[f]? = some fn) (hb : fn.body = some c) (hz : args.length ≤ fn.ntmps)
    (h : ∀ n0, aw P c (fin P fn.results.toList (post n0)) (init args fn.ntmps n0)) : AP P f args post := by
  intro w S β vs hbnd hl hr ho
  refine calls_of_wp hf hb ?_
  have hs : Sim P (fun _ => False) w S (init args fn.ntmps w.heap.size) { tmps := vs ++ Array.replicate (fn.ntmps - vs.size) undef, defers := [] } w S β := by
    refine ⟨rfl, by simp [init]; omega, ?_, ?_, ?_, ?_, ?_, hbnd, fun _ _ h => h, fun _ _ h => .inl h, BelowX.refl _ _ _, Nat.le_refl _⟩
    · intro i tv hlk
      obtain ⟨_, h2⟩ := lk_argT args 0 i tv hlk
      rw [Nat.sub_zero] at h2
      obtain ⟨hi, rfl⟩ := List.getElem?_eq_some_iff.1 h2
      have hi2 : i < vs.size := by omega
      refine ⟨vs[i], ?_, hr i hi hi2, TV.ok_mono (fun _ hf => hf.elim) (okL_get ho i hi)⟩
      rw [Array.getElem?_append_left hi2]
      exact Array.getElem?_eq_getElem hi2
    · intro k ob hk; cases hk
    · intro k ob hk; cases hk
    · intro k k' ob ob' hk; cases hk
    · intro k ob hk; cases hk
  refine wp_mono (h w.heap.size (fun _ => False) w S _ w ⟨S, β, hs⟩) ?_
  have main : ∀ (a' : Act) (w' : World) (st' : St), afinish P fn.results.toList st' (post w.heap.size) → SimE P (fun _ => False) w S st' a' w' →
      a'.defers = [] ∧ ∃ v, (results fn a'.tmps).run P w' = .ok v w' ∧ (∃ r v' S', Ending.returned v = .returned v' ∧ post w.heap.size w'.heap.size r ∧ RV P w' S' β r v' ∧ r.ok (fun _ => False) ∧ Ext w S w' S') := by
    rintro a' w' st' hfin ⟨S', β', hs'⟩
    unfold afinish at hfin
    cases hrs : ares P st' fn.results.toList with
    | none => rw [hrs] at hfin; exact hfin.elim
    | some rs =>
      rw [hrs] at hfin
      obtain ⟨rs', ⟨hl1, hle⟩, hpost⟩ := hfin
      obtain ⟨us, hrun, hl2, hru, hok⟩ := run_ares hs' _ rs hrs
      obtain ⟨S2, hk2, h2⟩ := hs'.frz (ownKeysL rs)
      have hle' : ∀ i (hi : i < rs'.length) (hj : i < us.length), RV P w' S2 β rs'[i] us[i] ∧ (rs'[i]).ok (fun _ => False) := by
        intro i hi hj
        have := (hle i (by omega) hi).sound h2 ((hru i (by omega) hj).keeps hk2 (TV.ok_mono (fun _ _ => rfl) (okL_get hok i (by omega))))
        exact ⟨this.1.keeps (Keeps.refl _ _) (TV.ok_mono (fun _ hf => hf.elim) this.2), this.2⟩
      have hres : (results fn a'.tmps).run P w' = .ok (if h : us.toArray.size = 1 then us.toArray[0] else .tuple us.toArray) w' := by
        rw [results_eq, Array.mapM_eq_mapM_toList]
        simp only [Sem.run_bind, Sem.run_map, hrun, Result.andThen_ok, Sem.run_pure]
      have hext : Ext w S w' S2 := ⟨h2.sub, h2.new, h2.bnd, ⟨h2.below.os, h2.below.tape, h2.below.output, h2.below.size, fun k hk => h2.below.block k hk (fun h => h)⟩⟩
      refine ⟨hs'.dfr, _, hres, afin rs', _, S2, rfl, hpost _ hs'.n, ?_, ?_, hext⟩
      · match rs', us, hl1, hl2, hle' with
        | [x], [u], _, _, hle' => exact (hle' 0 (by simp) (by simp)).1
        | [], [], _, _, _ => exact .tup (cs := []) rfl (fun i hi => absurd hi (by simp))
        | x :: y :: l, u :: v :: m, e1, e2, hle' =>
          refine .tup (cs := x :: y :: l) (vs := (u :: v :: m).toArray) (by simp at e1 e2 ⊢; omega) ?_
          intro i hi hj
          simpa using (hle' i hi (by simpa using hj)).1
        | [x], [], e1, e2, _ => exact absurd (e1.symm.trans e2) (by simp)
        | [x], _ :: _ :: _, e1, e2, _ => exact absurd (e1.symm.trans e2) (by simp)
        | [], _ :: _, e1, e2, _ => exact absurd (e1.symm.trans e2) (by simp)
        | _ :: _ :: _, [], e1, e2, _ => exact absurd (e1.symm.trans e2) (by simp)
        | _ :: _ :: _, [_], e1, e2, _ => exact absurd (e1.symm.trans e2) (by simp)
      · have hall : ∀ x ∈ rs', x.ok (fun _ => False) := by
          intro x hx
          obtain ⟨i, hi, rfl⟩ := List.mem_iff_getElem.1 hx
          exact (hle' i hi (by omega)).2
        match rs', hall with
        | [x], hall => exact hall x (by simp)
        | [], _ => exact trivial
        | x :: y :: l, hall => show okL _ _; rw [okL_iff]; exact hall
  rintro e a' w' ⟨st', hq, hs'⟩
  cases e with
  | normal => exact main a' w' st' hq hs'
  | ret => exact main a' w' st' hq hs'
  | _ => exact hq.elim
end
end Go.Av

namespace Go.Av
@[push_cast] theorem aopsN_zero (P : Program) (ops : Array Oper) (K : St → Prop) (i : Nat) (st : St) : aopsN P ops K 0 i st = K st := rfl
@[push_cast] theorem aopsN_succ (P : Program) (ops : Array Oper) (K : St → Prop) (n i : Nat) (st : St) : aopsN P ops K (n + 1) i st = aop1 P ops (aopsN P ops K n (i + 1)) st (ops[i]?) := rfl
theorem evc_tmp (st : St) (t : Nat) : evc st (.tmp t) = (lk t st.t).getD .unk := rfl
theorem lk_same {α : Type} (k : Nat) (x : α) (l : List (Nat × α)) : lk k ((k, x) :: l) = some x := lk_cons_eq k x l

theorem aw_cond_t {P : Program} {x y : Code} {Q : Exit → St → Prop} {st : St} {c : Operand} (hc : boolOfTV (evc st c) = some true) (h : aw P x Q st) : aw P (.cond c x y) Q st :=
  aw_cond hc (fun _ => h) (fun e => by cases e)
theorem aw_cond_f {P : Program} {x y : Code} {Q : Exit → St → Prop} {st : St} {c : Operand} (hc : boolOfTV (evc st c) = some false) (h : aw P y Q st) : aw P (.cond c x y) Q st :=
  aw_cond hc (fun e => by cases e) (fun _ => h)
def acond (P : Program) (x y : Code) (Q : Exit → St → Prop) (st : St) : Option Bool → Prop
  | some true => aw P x Q st
  | some false => aw P y Q st
  | none => False
theorem aw_cond' {P : Program} {x y : Code} {Q : Exit → St → Prop} {st : St} {c : Operand} (h : acond P x y Q st (boolOfTV (evc st c))) : aw P (.cond c x y) Q st := by
  cases hb : boolOfTV (evc st c) with
  | none => rw [hb] at h; exact h.elim
  | some t =>
    rw [hb] at h
    cases t
    · exact aw_cond_f hb h
    · exact aw_cond_t hb h
theorem acond_split {P : Program} {x y : Code} {Q : Exit → St → Prop} {st : St} {t : Bool} (h1 : t = true → aw P x Q st) (h2 : t = false → aw P y Q st) : acond P x y Q st (some t) := by
  cases t
  · exact h2 rfl
  · exact h1 rfl

def subT (ks : List Nat) : List (Nat × TV) → List (Nat × TV) → Prop
  | [], _ => True
  | (i, x) :: r, l => (lk i l = some x ∧ x.ok (· ∈ ks)) ∧ subT ks r l
def subO (ks : List Nat) : List (Nat × Obj) → List (Nat × Obj) → Prop
  | [], _ => True
  | (i, x) :: r, l => (lk i l = some x ∧ x.okO (· ∈ ks) ∧ i ∈ ks) ∧ subO ks r l
theorem subT_lk {ks : List Nat} : ∀ {r l : List (Nat × TV)}, subT ks r l → ∀ i tv, lk i r = some tv → lk i l = some tv ∧ tv.ok (· ∈ ks)
  | [], _, _, i, tv, h => by cases h
  | (j, x) :: r, l, hs, i, tv, h => by
    by_cases hij : i = j
    · subst hij; rw [lk_cons_eq] at h; cases h; exact hs.1
    · rw [lk_cons_ne _ _ hij] at h; exact subT_lk hs.2 i tv h
theorem subO_lk {ks : List Nat} : ∀ {r l : List (Nat × Obj)}, subO ks r l → ∀ i tv, lk i r = some tv → lk i l = some tv ∧ tv.okO (· ∈ ks) ∧ i ∈ ks
  | [], _, _, i, tv, h => by cases h
  | (j, x) :: r, l, hs, i, tv, h => by
    by_cases hij : i = j
    · subst hij; rw [lk_cons_eq] at h; cases h; exact hs.1
    · rw [lk_cons_ne _ _ hij] at h; exact subO_lk hs.2 i tv h
theorem SLe.of' {P : Program} {s1 s : St} (ht : subT s1.ks s1.t s.t) (ho : subO s1.ks s1.o s.o) (hn : s1.n ≤ s.n) (hz : s1.sz = s.sz) : SLe P s1 s :=
  SLe.of (subT_lk ht) (subO_lk ho) hn hz

theorem afin_same {P : Program} {st : St} {post : Nat → TV → Prop} {rs : List TV} (ho : okL (fun _ => False) rs) (hp : ∀ n, st.n ≤ n → post n (afin rs)) : afinish2 P st post (some rs) :=
  ⟨rs, ⟨rfl, fun i hi _ => .same (okL_get ho i hi)⟩, hp⟩

/-- A call by a contract, the arguments as they are. -/
theorem acall_same {P : Program} {R : St → Prop} {st : St} {dst : Option Nat} {g : FuncId} {cap args : List TV} {post : Nat → Nat → TV → Prop} (hp : Plainly P g) (h : AP P g (args ++ cap) post)
    (hk : ownKeysL (args ++ cap) = []) (ho : okL (fun _ => False) (args ++ cap)) (hr : ∀ n1 n2 r, st.n ≤ n1 → n1 ≤ n2 → post n1 n2 r → onSt R (put (setN st n2) r dst)) : acall P R st dst (.clo g cap) args := by
  refine ⟨hp, args ++ cap, post, h, by rw [hk]; rfl, rfl, fun i hi hj => ?_, by rw [hk]; exact hr⟩
  exact .same (okL_get ho i hi)
theorem i64_in {n : Int} (h1 : -9223372036854775808 ≤ n) (h2 : n ≤ 9223372036854775807) : IntKind.i64.wrap n = n := by
  have a : ((2 : Int) ^ IntKind.i64.bits) = 18446744073709551616 := by decide
  have b : ((2 : Int) ^ (IntKind.i64.bits - 1)) = 9223372036854775808 := by decide
  have c : IntKind.i64.signed = true := rfl
  simp only [IntKind.wrap, a, b, c, Bool.true_and, decide_eq_true_eq]
  split <;> omega
@[push_cast] theorem dec_nn (i : Nat) : decide (0 ≤ (i : Int)) = true := by simp
attribute [push_cast] aop1.eq_1 aop1.eq_2 aop2.eq_1 aop2.eq_2 aop2.eq_3 aop.eq_1 aop.eq_2 aop.eq_3 aop.eq_4 abytes.eq_1 abytes.eq_2 onSt.eq_1 onSt.eq_2 gval.eq_1 gw.eq_1 gw.eq_2 lop.eq_1 leff.eq_1 leff.eq_2 leff.eq_3 leff.eq_4 leff.eq_5 leff.eq_6 leff.eq_7 leff.eq_8 leff.eq_9 leff.eq_10 leff.eq_11 leff.eq_12 leff.eq_13 leff.eq_14 leff.eq_15 leff.eq_16 leff.eq_17 leff.eq_18 evc.eq_1 evc.eq_2 evc.eq_3 evc.eq_4 put.eq_1 put.eq_2 fieldAt.eq_1 fieldAt.eq_2 fieldAt.eq_3 fieldAt.eq_4 fieldAt.eq_5 fieldAt.eq_6 fieldAt.eq_7 fieldAt.eq_8 fieldAt.eq_9 fieldAt.eq_10 fieldAt.eq_11 loadAt.eq_1 loadAt.eq_2 loadAt.eq_3 loadAt.eq_4 loadAt.eq_5 loadAt.eq_6 loadAt.eq_7 loadAt.eq_8 loadAt.eq_9 loadAt.eq_10 loadAt.eq_11 takeTV.eq_1 takeTV.eq_2 takeT.eq_1 takeT.eq_2 lenOf.eq_1 lenOf.eq_2 lenOf.eq_3 lenOf.eq_4 lenOf.eq_5 binAt.eq_1 binAt2.eq_1 binAt2.eq_2 binAt2.eq_3 binAt2.eq_4 binAt2.eq_5 shiftAt.eq_1 shiftAt.eq_2 shiftI.eq_1 shiftI.eq_2 shiftI.eq_3 isShift.eq_1 isShift.eq_2 isShift.eq_3 intBin.eq_1 intBin.eq_2 intBin.eq_3 intBin.eq_4 intBin.eq_5 intBin.eq_6 intBin.eq_7 intBin.eq_8 intBin.eq_9 intBin.eq_10 intBin.eq_11 intBin.eq_12 intBin.eq_13 intBin.eq_14 intBin.eq_15 intBin.eq_16 boolBin.eq_1 boolBin.eq_2 boolBin.eq_3 strBin.eq_1 strBin.eq_2 strBin.eq_3 strBin.eq_4 strBin.eq_5 strBin.eq_6 strBin.eq_7 strBin.eq_8 hasKey.eq_1 hasKey.eq_2 indexAt.eq_1 indexAt.eq_2 indexAt.eq_3 valTV.eq_1 valTV.eq_2 valTV.eq_3 valTV.eq_4 valTV.eq_5 boxCells.eq_1 boxCells.eq_2 boxCells.eq_3 arrEs.eq_1 arrEs.eq_2 arrEs.eq_3 intOfTV.eq_1 intOfTV.eq_2 boolOfTV.eq_1 boolOfTV.eq_2 effOn.eq_1 effOn.eq_2 bleff.eq_1 bleff.eq_2 unAt.eq_1 unAt.eq_2 unAt.eq_3 extractAt.eq_1 extractAt.eq_2 convAt.eq_1 convAt.eq_2 fillTV.eq_1 fillTV.eq_2 setSeg.eq_1 cellsOf.eq_1 cellsOf.eq_2 cellsOf.eq_3 cellsOf.eq_4 cellsOf.eq_5 cellsOf.eq_6 cellsOf.eq_7 cellsOf.eq_8 cellsOf.eq_9 cellsOf.eq_10 cellsOf.eq_11 strIndex.eq_1 strIndex.eq_2 boundOf.eq_1 boundOf.eq_2 sliceAt.eq_1 sliceAt.eq_2 sliceAt.eq_3 eqK.eq_1 eqK.eq_2 eqK.eq_3 eqK.eq_4 eqKs.eq_1 eqKs.eq_2 eqKs.eq_3 thn.eq_1 thn.eq_2 ownKeys.eq_1 ownKeys.eq_2 ownKeys.eq_3 ownKeys.eq_4 ownKeys.eq_5 ownKeys.eq_6 ownKeys.eq_7 ownKeys.eq_8 ownKeys.eq_9 ownKeys.eq_10 ownKeys.eq_11 ownKeysL.eq_1 ownKeysL.eq_2 frz.eq_1 frz.eq_2 frz1.eq_1 frz1.eq_2 frzObj.eq_1 frzObj.eq_2 frzObj.eq_3 setN.eq_1 storeAt.eq_1 storeAt.eq_2 storeAt.eq_3 astore.eq_1 storeObj.eq_1 storeObj.eq_2 storeObj.eq_3 storeObj.eq_4 storeObj.eq_5 storeBox.eq_1 storeArr.eq_1 toTs.eq_1 toTs.eq_2 toTs.eq_3 toTs.eq_4 toTs.eq_5 single.eq_1 single.eq_2 single.eq_3 single.eq_4 inB.eq_1 inB.eq_2 ares.eq_1 ares.eq_2 ares.eq_3 afin.eq_1 afin.eq_2 afinish.eq_1 afinish2.eq_2 fin.eq_1 fin.eq_2 fin.eq_3 argT.eq_1 argT.eq_2 lp.eq_1 lp.eq_2 kOf.eq_1 init.eq_1
attribute [push_cast] lk_nil lk_cons
  Option.map_some Option.map_none Option.bind_some Option.getD_some Option.getD_none cond_true cond_false List.getElem?_cons_zero List.getElem?_cons_succ List.length_cons List.length_nil List.drop_zero List.drop_succ_cons
  List.take_zero List.take_succ_cons List.take_nil List.drop_nil List.nil_append List.cons_append List.append_nil List.size_toArray List.map_cons List.map_nil List.all_cons List.all_nil
  Bool.not_false Bool.not_true Bool.and_true Bool.true_and Bool.and_self Bool.false_and Bool.and_false beq_self_eq_true List.toList_toArray
  TV.ok.eq_1 TV.ok.eq_2 TV.ok.eq_3 TV.ok.eq_4 TV.ok.eq_5 TV.ok.eq_6 TV.ok.eq_7 TV.ok.eq_8 TV.ok.eq_9 TV.ok.eq_10 TV.ok.eq_11 okL.eq_1 okL.eq_2 subT.eq_1 subT.eq_2 subO.eq_1 subO.eq_2 acond.eq_1 acond.eq_2 Int.toNat_natCast true_and and_true and_self List.mem_cons eq_self
  Nat.zero_add Nat.add_zero Nat.sub_zero decide_true decide_false
end Go.Av
