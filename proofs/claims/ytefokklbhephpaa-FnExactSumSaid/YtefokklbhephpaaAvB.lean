/- The abstract machine: stores, frozen arrays, calls. -/
import Derived.Test.YtefokklbhephpaaAvA
set_option linter.unusedVariables false
set_option linter.unusedSimpArgs false

namespace Go.Av
section
variable {P : Program} {X : Nat → Prop} {w0 w w' : World} {S0 S S' : Stable} {st st' : St} {a : Act} {β β' : Places}

theorem TV.ok_mono {p q : Nat → Prop} (h : ∀ k, p k → q k) : ∀ {x : TV}, x.ok p → x.ok q := by
  intro x
  have key : ∀ n : Nat, (∀ x : TV, SizeOf.sizeOf x < n → x.ok p → x.ok q) ∧ (∀ l : List TV, SizeOf.sizeOf l < n → okL p l → okL q l) := by
    intro n
    induction n with
    | zero => exact ⟨fun x hx => absurd hx (Nat.not_lt_zero _), fun x hx => absurd hx (Nat.not_lt_zero _)⟩
    | succ n ih =>
      refine ⟨fun x hx ho => ?_, fun l hl ho => ?_⟩
      · cases x <;> simp only [TV.ok] at ho ⊢ <;> first
          | trivial
          | exact h _ ho
          | (refine ih.2 _ ?_ ho; simp at hx; omega)
      · cases l with
        | nil => trivial
        | cons y l =>
          simp at hl
          exact ⟨ih.1 y (by omega) ho.1, ih.2 l (by omega) ho.2⟩
  exact (key (SizeOf.sizeOf x + 1)).1 x (by omega)
theorem okL_mono {p q : Nat → Prop} (h : ∀ k, p k → q k) {l : List TV} (ho : okL p l) : okL q l := by
  rw [okL_iff] at *
  exact fun x hx => TV.ok_mono h (ho x hx)
theorem okO_mono {p q : Nat → Prop} (h : ∀ k, p k → q k) {o : Obj} (ho : o.okO p) : o.okO q := by
  cases o with
  | box cs => exact okL_mono h ho
  | arr => trivial
  | fz => trivial

theorem ArrOk.keeps {vs : Array Value} {m : Nat} {es : List (List T)} (hk : Keeps w S w' S') (h : ArrOk w S vs m es) : ArrOk w' S' vs m es :=
  ⟨h.hm, fun i j hi hj => let ⟨v, hv, hr⟩ := h.cell i j hi hj; ⟨v, hv, hr.keeps hk⟩⟩

theorem OV.keeps {k : Nat} {o : Obj} (hk : Keeps w S w' S') (hb : w'.heap[(β k).blk]? = w.heap[(β k).blk]?) (he : β' k = β k) (ho : o.okO (fun j => β' j = β j)) (h : OV P w S β k o) : OV P w' S' β' k o := by
  cases h with
  | box hb' hl hv =>
    refine .box (by rw [he, hb]; exact hb') hl fun i hi hj => (hv i hi hj).keeps hk (okL_get ho i hi)
  | arr hb' hm hlen hcap hsz h =>
    rw [← he]
    exact .arr (by rw [he, hb]; exact hb') (by rw [he]; exact hm) (by rw [he]; exact hlen) (by rw [he]; exact hcap) (by rw [he]; exact hsz) (h.keeps hk)
  | fz hb' hm hlen hcap h hs =>
    rw [← he]
    exact .fz (by rw [he, hb]; exact hb') (by rw [he]; exact hm) (by rw [he]; exact hlen) (by rw [he]; exact hcap) (h.keeps hk) (fun i j hi hj => by rw [he]; exact hk.sub _ _ (hs i j hi hj))

theorem OV.lt {k : Nat} {o : Obj} (h : OV P w S β k o) : (β k).blk < w.heap.size := by
  have : ∀ x, w.heap[(β k).blk]? = some x → (β k).blk < w.heap.size := fun x hx => (Array.getElem?_eq_some_iff.1 hx).1
  cases h with
  | box hb hl hv => exact this _ hb
  | arr hb hm hlen hcap hsz h => exact this _ hb
  | fz hb hm hlen hcap h hs => exact this _ hb

theorem lk_cons_eq {α : Type} (k : Nat) (x : α) (l : List (Nat × α)) : lk k ((k, x) :: l) = some x := by simp [lk]
theorem lk_cons_ne {α : Type} {k j : Nat} (x : α) (l : List (Nat × α)) (h : k ≠ j) : lk k ((j, x) :: l) = lk k l := by
  have : (k == j) = false := by simpa using h
  simp [lk, this]

theorem Act.put_size (d : Option Nat) (v : Value) : (a.put d v).tmps.size = a.tmps.size := by cases d <;> simp [Act.put]
theorem Act.put_get {d : Nat} {v : Value} (h : d < a.tmps.size) : (a.put (some d) v).tmps[d]? = some v := by simp [Act.put, h]
theorem Act.put_get_ne {d i : Nat} {v : Value} (h : i ≠ d) : (a.put (some d) v).tmps[i]? = a.tmps[i]? := by simp [Act.put, Array.getElem?_setIfInBounds_ne (Ne.symm h)]

/-- A value put into a slot. -/
theorem Sim.put (h : Sim P X w0 S0 st a w S β) {x : TV} {v : Value} {dst : Option Nat} (hr : RV P w S β x v) (ho : x.ok (· ∈ st.ks)) (e : put st x dst = some st') :
    Sim P X w0 S0 st' (a.put dst v) w S β := by
  cases dst with
  | none => cases e; exact h
  | some d =>
    simp only [Av.put] at e
    obtain ⟨_, h1, e⟩ := ob_eq_some e
    cases e
    have hd := of_decide_eq_true (chk_eq_some h1)
    refine ⟨h.dfr, by rw [Act.put_size]; exact h.size, ?_, h.objs, h.own, h.inj, h.sep, h.bnd, h.sub, h.new, h.below, h.n⟩
    intro i tv hl
    by_cases hi : i = d
    · subst hi
      rw [lk_cons_eq] at hl
      cases hl
      exact ⟨v, Act.put_get (by rw [h.size]; exact hd), hr, ho⟩
    · rw [lk_cons_ne _ _ hi] at hl
      obtain ⟨u, hu, h2⟩ := h.tmps i tv hl
      exact ⟨u, by rw [Act.put_get_ne hi]; exact hu, h2⟩

theorem hasKey_iff {k : Nat} {l : List Nat} : hasKey k l = true ↔ k ∈ l := by
  induction l with
  | nil => simp [hasKey]
  | cons j l ih =>
    simp only [hasKey, List.mem_cons]
    by_cases h : k = j
    · simp [h]
    · simp [h, ih]

theorem keeps_alloc (o : Go.Obj) (hb : ∀ b x, S b x → b < w.heap.size) : Keeps w S (w.alloc o) S :=
  ⟨fun _ _ h => h, fun b x hs => World.cell?_alloc_lt w o ⟨b, x, none⟩ (hb b x hs)⟩

def updP (β : Places) (k : Nat) (pl : Pl) : Places := fun j => if j = k then pl else β j
theorem updP_same (β : Places) (k : Nat) (pl : Pl) : updP β k pl k = pl := by simp [updP]
theorem updP_ne (β : Places) {k j : Nat} (pl : Pl) (h : j ≠ k) : updP β k pl j = β j := by simp [updP, h]

/-- A new object. -/
theorem Sim.newObj (h : Sim P X w0 S0 st a w S β) {k : Nat} {pl : Pl} {ob : Obj} {o : Go.Obj} (hk : k ∉ st.ks) (hpl : pl.blk = w.heap.size)
    (hov : OV P (w.alloc o) S (updP β k pl) k ob) (hok : ob.okO (· ∈ k :: st.ks)) :
    Sim P X w0 S0 { st with o := (k, ob) :: st.o, ks := k :: st.ks } a (w.alloc o) S (updP β k pl) := by
  have hkeep := keeps_alloc (w := w) o h.bnd
  have hne : ∀ j, j ∈ st.ks → (updP β k pl) j = β j := by
    intro j hj
    exact updP_ne β pl (fun e => hk (e ▸ hj))
  have hold : ∀ j ob', lk j ((k, ob) :: st.o) = some ob' → j ≠ k → lk j st.o = some ob' := by
    intro j ob' hl hj
    rwa [lk_cons_ne _ _ hj] at hl
  have hblt : ∀ j ob', lk j st.o = some ob' → (β j).blk < w.heap.size := fun j ob' hl => (h.objs j ob' hl).1.lt
  have hself : (updP β k pl) k = pl := updP_same β k pl
  refine ⟨h.dfr, h.size, ?_, ?_, ?_, ?_, ?_, ?_, h.sub, h.new, ?_, ?_⟩
  · intro i tv hl
    obtain ⟨v, hv, hr, ho⟩ := h.tmps i tv hl
    exact ⟨v, hv, hr.keeps hkeep (TV.ok_mono hne ho), TV.ok_mono (fun j hj => List.mem_cons_of_mem _ hj) ho⟩
  · intro j ob' hl
    by_cases hj : j = k
    · subst hj
      rw [lk_cons_eq] at hl
      cases hl
      exact ⟨hov, hok, List.mem_cons_self ..⟩
    · obtain ⟨h1, h2, h3⟩ := h.objs j ob' (hold j ob' hl hj)
      refine ⟨h1.keeps hkeep (Go.RowKit.Below.heap_alloc _ _ _ h1.lt) (hne j h3) (okO_mono hne h2), okO_mono (fun j hj => List.mem_cons_of_mem _ hj) h2, List.mem_cons_of_mem _ h3⟩
  · intro j ob' hl
    by_cases hj : j = k
    · subst hj
      rw [hself, hpl]
      exact .inr h.below.size
    · have h1 := hold j ob' hl hj
      rw [hne j (h.objs j ob' h1).2.2]
      exact h.own j ob' h1
  · intro j j' ob1 ob2 hl hl' hjj
    by_cases hj : j = k
    · subst hj
      have h2 := hold j' ob2 hl' (Ne.symm hjj)
      rw [hself, hpl, hne j' (h.objs j' ob2 h2).2.2]
      have := hblt j' ob2 h2
      omega
    · have h1 := hold j ob1 hl hj
      by_cases hj' : j' = k
      · subst hj'
        rw [hself, hpl, hne j (h.objs j ob1 h1).2.2]
        have := hblt j ob1 h1
        omega
      · have h2 := hold j' ob2 hl' hj'
        rw [hne j (h.objs j ob1 h1).2.2, hne j' (h.objs j' ob2 h2).2.2]
        exact h.inj j j' ob1 ob2 h1 h2 hjj
  · intro j ob' hl hw x
    by_cases hj : j = k
    · subst hj
      rw [hself, hpl]
      intro hs
      have := h.bnd _ _ hs
      omega
    · have h1 := hold j ob' hl hj
      rw [hne j (h.objs j ob' h1).2.2]
      exact h.sep j ob' h1 hw x
  · intro b x hs
    have := h.bnd b x hs
    simp only [World.size_alloc]
    omega
  · exact h.below.alloc h.below.size o
  · have := h.n
    simp only [World.size_alloc]
    omega

theorem lop_sound (h : Sim P X w0 S0 st a w S β) {o : Oper} (e : lop P st o = some st') :
    ∃ v w' β', (execOp a.eval o).run P w = .ok (.value v) w' ∧ Sim P X w0 S0 st' (a.put o.dst v) w' S β' := by
  unfold lop at e
  obtain ⟨eff, he, e⟩ := ob_eq_some e
  cases eff with
  | val x =>
    obtain ⟨u, hu, hr, ho⟩ := leff_val h he
    exact ⟨u, w, β, hu, h.put hr ho e⟩
  | box cs =>
    obtain ⟨vs, el, hrun, hl, hv, hok⟩ := leff_box h he
    simp only [effOn] at e
    obtain ⟨d, hd, e⟩ := ob_eq_some e
    obtain ⟨_, h1, e⟩ := ob_eq_some e
    obtain ⟨h2, h3⟩ := chk2 h1
    have h2 := of_decide_eq_true h2
    have h3 : kOf d ∉ st.ks := by
      intro hm
      rw [hasKey_iff.2 hm] at h3
      cases h3
    cases e
    let pl : Pl := ⟨w.heap.size, 0, 0, 0⟩
    have hne : ∀ j, j ∈ st.ks → (updP β (kOf d) pl) j = β j := by
      intro j hj
      exact updP_ne β pl (fun e => h3 (e ▸ hj))
    have hov : OV P (w.alloc (.cells vs el)) S (updP β (kOf d) pl) (kOf d) (.box cs) := by
      refine .box (vs := vs) (e := el) ?_ hl fun i hi hj => (hv i hi hj).keeps (keeps_alloc _ h.bnd) (TV.ok_mono hne (okL_get hok i hi))
      rw [updP_same]
      show (w.heap.push _)[w.heap.size]? = _
      simp
    have hs := h.newObj (k := kOf d) (pl := pl) (ob := .box cs) (o := .cells vs el) h3 rfl hov (okL_mono (fun j hj => List.mem_cons_of_mem _ hj) hok)
    refine ⟨_, _, updP β (kOf d) pl, hrun, ?_⟩
    rw [hd]
    have e2 : Av.put { st with o := (kOf d, .box cs) :: st.o, ks := kOf d :: st.ks } (.ptr (kOf d) 0) (some d) =
        some { t := (d, .ptr (kOf d) 0) :: st.t, o := (kOf d, .box cs) :: st.o, ks := kOf d :: st.ks, n := st.n, sz := st.sz } := by
      simp [Av.put, h2, chk, ob]
    refine hs.put (x := .ptr (kOf d) 0) ?_ (List.mem_cons_self ..) e2
    have := RV.ptr (P := P) (w := w.alloc (.cells vs el)) (S := S) (β := updP β (kOf d) pl) (kOf d) 0
    rw [updP_same] at this
    exact this
end
end Go.Av

namespace Go.Av

def DV.tv : DV → TV
  | .c t => .d t
  | .g cs => .agg (cs.map .d)

/-- The contract of a function that writes to nothing that was there. -/
def AP (P : Program) (f : FuncId) (args : List TV) (post : Nat → Nat → TV → Prop) : Prop :=
  ∀ (w : World) (S : Stable) (β : Places) (vs : Array Value), (∀ b x, S b x → b < w.heap.size) → args.length = vs.size →
    (∀ i (hi : i < args.length) (hj : i < vs.size), RV P w S β args[i] vs[i]) → okL (fun _ => False) args →
    Calls P f vs w fun e w' => ∃ r v S', e = .returned v ∧ post w.heap.size w'.heap.size r ∧ RV P w' S' β r v ∧ r.ok (fun _ => False) ∧ Ext w S w' S'

/-- What a function value does, as a pure function. -/
def FnOf (P : Program) (f : FuncId) (g : List DV → Option DV) : Prop :=
  Plainly P f ∧ ∀ (args : List DV) (res : DV), g args = some res → AP P f (args.map DV.tv) fun _ _ r => r = res.tv

/-- What a callee may be told of a value. -/
inductive Le (P : Program) (st : St) : TV → TV → Prop where
  | same {x : TV} (h : x.ok (fun _ => False)) : Le P st x x
  | erase {t : T} : Le P st (.d t) (.d t.erase)
  | nl {b : Nat} : Le P st .nl (.d (.sl b []))
  | own {k b m : Nat} {es : List (List T)} (h : lk k st.o = some (.fz b m es)) : Le P st (.own k) (.d (.sl b es))
  | ownE {k b m : Nat} {es : List (List T)} (h : lk k st.o = some (.fz b m es)) : Le P st (.own k) (.d (T.sl b es).erase)
  | agg {cs ds : List TV} (hl : cs.length = ds.length) (h : ∀ i (hi : i < cs.length) (hj : i < ds.length), Le P st cs[i] ds[i]) : Le P st (.agg cs) (.agg ds)
  | clo {f : FuncId} {g : List DV → Option DV} (h : FnOf P f g) : Le P st (.clo f []) (.fn g)

mutual
/-- A value as plain data, as far as it is that. -/
def norm (st : St) : TV → TV
  | .d t => .d t.erase
  | .nl => .d (.sl 0 [])
  | .own k => match lk k st.o with
    | some (.fz _ _ es) => .d (.sl 0 (eraseEs es))
    | _ => .unk
  | .agg cs => .agg (normL st cs)
  | .unk => .unk
  | .tup vs => .unk
  | .ptr _ _ => .unk
  | .ap _ _ _ => .unk
  | .rp _ => .unk
  | .clo f [] => .clo f []
  | .clo _ (_ :: _) => .unk
  | .fn g => .fn g
def normL (st : St) : List TV → List TV
  | [] => []
  | x :: xs => norm st x :: normL st xs
end

mutual
def ownKeys : TV → List Nat
  | .own k => [k]
  | .agg cs => ownKeysL cs
  | .d _ => []
  | .nl => []
  | .unk => []
  | .tup _ => []
  | .ptr _ _ => []
  | .ap _ _ _ => []
  | .rp _ => []
  | .clo _ _ => []
  | .fn _ => []
def ownKeysL : List TV → List Nat
  | [] => []
  | x :: xs => ownKeys x ++ ownKeysL xs
end

def frzObj : Obj → Obj
  | .arr b m es => .fz b m es
  | .fz b m es => .fz b m es
  | .box cs => .box cs
def frz1 (st : St) (k : Nat) : Option Obj → St
  | some o => { t := st.t, o := (k, frzObj o) :: st.o, ks := st.ks, n := st.n, sz := st.sz }
  | none => st
/-- Arrays that are written no more. -/
def frz (st : St) : List Nat → St
  | [] => st
  | k :: l => frz (frz1 st k (lk k st.o)) l

def onSt (R : St → Prop) : Option St → Prop
  | some st => R st
  | none => False

def setN (st : St) (n : Nat) : St := { t := st.t, o := st.o, ks := st.ks, n := n, sz := st.sz }

def toDV : TV → Option DV
  | .d t => some (.c t.erase)
  | .nl => some (.c (.sl 0 []))
  | .agg cs => some (.g (cs.filterMap fun | .d t => some t.erase | .nl => some (.sl 0 []) | _ => none))
  | _ => none

def acall (P : Program) (R : St → Prop) (st : St) (dst : Option Nat) (f : TV) (args : List TV) : Prop :=
  match f with
  | .clo g cap => Plainly P g ∧ ∃ args' post, AP P g args' post ∧ (frz st (ownKeysL (args ++ cap))).n = st.n ∧
      (args ++ cap).length = args'.length ∧ (∀ i (hi : i < (args ++ cap).length) (hj : i < args'.length), Le P (frz st (ownKeysL (args ++ cap))) (args ++ cap)[i] args'[i]) ∧
      ∀ n1 n2 r, st.n ≤ n1 → n1 ≤ n2 → post n1 n2 r → onSt R (put (setN (frz st (ownKeysL (args ++ cap))) n2) r dst)
  | .fn g => ∃ dvs res, g dvs = some res ∧ args.length = dvs.length ∧ (∀ i (hi : i < args.length) (hj : i < dvs.length), Le P st args[i] (dvs[i]).tv) ∧
      ∀ n2, st.n ≤ n2 → onSt R (put (setN st n2) res.tv dst)
  | _ => False

def single : TV → Bool
  | .unk => false
  | .agg _ => false
  | .tup _ => false
  | _ => true

/-- Values as data, their arrays written no more. -/
def toTs (st : St) : List TV → Option (List T)
  | [] => some []
  | .d t :: l => ob (toTs st l) fun r => some (t :: r)
  | .nl :: l => ob (toTs st l) fun r => some (.sl 0 [] :: r)
  | .own k :: l => match lk k st.o with
    | some (.fz b _ es) => ob (toTs st l) fun r => some (.sl b es :: r)
    | _ => none
  | _ :: _ => none

def storeBox (st : St) (k off sz : Nat) (new cs : List TV) : Option St :=
  ob (chk (new.length == sz && (decide (off + new.length ≤ cs.length) && new.all single))) fun _ =>
    some { t := st.t, o := (k, .box (setSeg off new cs)) :: st.o, ks := st.ks, n := st.n, sz := st.sz }
def storeArr (st : St) (k i f sz : Nat) (new : List TV) (b m : Nat) (es : List (List T)) : Option St :=
  ob (es[i]?) fun e => ob (toTs st new) fun ts => ob (chk (ts.length == sz && decide (f + ts.length ≤ e.length))) fun _ =>
    some { t := st.t, o := (k, .arr b m (es.set i (setSeg f ts e))) :: st.o, ks := st.ks, n := st.n, sz := st.sz }
def storeObj (st : St) (k off i f sz : Nat) (new : List TV) (toArr : Bool) : Obj → Option St
  | .box cs => match toArr with
    | false => storeBox st k off sz new cs
    | true => none
  | .arr b m es => match toArr with
    | true => storeArr st k i f sz new b m es
    | false => none
  | .fz _ _ _ => none
def storeAt (st : St) (sz : Nat) (new : List TV) : TV → Option St
  | .ptr k off => ob (lk k st.o) fun o => storeObj st k off 0 0 sz new false o
  | .ap k i f => ob (lk k (frz st (ownKeysL new)).o) fun o => storeObj (frz st (ownKeysL new)) k 0 i f sz new true o
  | _ => none
def astore (P : Program) (st : St) (t : TypeId) (x v : Operand) : Option St := ob (cellsOf (evc st v)) fun new =>
  ob (chk (decide (0 < tySize P t))) fun _ => storeAt st (tySize P t) new (evc st x)

def gw : Bool → Bool → Bool
  | true, b => b
  | false, b => !b
def gval (ops : Array Oper) (st : St) (o : Oper) : Option Bool := match o.guard with
  | none => some true
  | some (j, want) => ob (ops[j]?) fun oj => ob oj.dst fun d => ob (boolOfTV (evc st (.tmp d))) fun b => some (gw want b)

def bytesT (s : ByteArray) : List (List T) := s.data.toList.map fun b => [.i .u8 b.toNat]

/-- []byte(s): new cells, that are only read. -/
def abytes (P : Program) (R : St → Prop) (st : St) (dst : Option Nat) (src d : TypeId) : TV → Prop
  | .d (.s x) => tyStr P src = true ∧ ((tyElem P d).bind (tyInt P)) = some .u8 ∧ ∀ blk, st.n ≤ blk → onSt R (put (setN st (blk + 1)) (.d (.sl blk (bytesT x))) dst)
  | _ => False

def aop (P : Program) (R : St → Prop) (st : St) (o : Oper) : Op → Prop
  | .store t x v => onSt R (ob (astore P st t x v) fun st' => put st' .unk o.dst)
  | .call c => match c.callee with
    | .value f => acall P R st o.dst (evc st f) (c.args.toList.map (evc st))
    | _ => onSt R (lop P st o)
  | .convert src d x => match tyInt P d with
    | some _ => onSt R (lop P st o)
    | none => abytes P R st o.dst src d (evc st x)
  | _ => onSt R (lop P st o)

def aop2 (P : Program) (R : St → Prop) (st : St) (o : Oper) : Option Bool → Prop
  | some true => aop P R st o o.op
  | some false => onSt R (put st .unk o.dst)
  | none => False
def aop1 (P : Program) (ops : Array Oper) (R : St → Prop) (st : St) : Option Oper → Prop
  | some o => aop2 P R st o (gval ops st o)
  | none => False
def aops (P : Program) (ops : Array Oper) (K : St → Prop) : List Nat → St → Prop
  | [], st => K st
  | i :: l, st => aop1 P ops (aops P ops K l) st (ops[i]?)

theorem aop2_split {P : Program} {R : St → Prop} {st : St} {o : Oper} {g : Bool} (h1 : g = true → aop2 P R st o (some true)) (h2 : g = false → aop2 P R st o (some false)) : aop2 P R st o (some g) := by
  cases g
  · exact h2 rfl
  · exact h1 rfl
theorem aop2_splitN {P : Program} {R : St → Prop} {st : St} {o : Oper} {g : Bool} (h1 : g = true → aop2 P R st o (some false)) (h2 : g = false → aop2 P R st o (some true)) : aop2 P R st o (some (!g)) := by
  cases g
  · exact h2 rfl
  · exact h1 rfl

end Go.Av

namespace Go.Av
section
variable {P : Program} {X : Nat → Prop} {w0 w w' : World} {S0 S S' : Stable} {st st' : St} {a : Act} {β β' : Places}

def SimE (P : Program) (X : Nat → Prop) (w0 : World) (S0 : Stable) (st : St) (a : Act) (w : World) : Prop := ∃ S β, Sim P X w0 S0 st a w S β

theorem Sim.setN (h : Sim P X w0 S0 st a w S β) {n : Nat} (hn : n ≤ w.heap.size) : Sim P X w0 S0 (setN st n) a w S β :=
  ⟨h.dfr, h.size, h.tmps, h.objs, h.own, h.inj, h.sep, h.bnd, h.sub, h.new, h.below, hn⟩

/-- The same objects under the same names, some frozen. -/
theorem Sim.frz1 (h : Sim P X w0 S0 st a w S β) (k : Nat) : ∃ S', Keeps w S w S' ∧ Sim P X w0 S0 (Av.frz1 st k (lk k st.o)) a w S' β := by
  cases hk : lk k st.o with
  | none => exact ⟨S, Keeps.refl _ _, h⟩
  | some o =>
    have same : frzObj o = o → Sim P X w0 S0 (Av.frz1 st k (some o)) a w S β := by
      intro e
      have hl : ∀ j, lk j ((k, frzObj o) :: st.o) = lk j st.o := by
        intro j
        by_cases hj : j = k
        · subst hj; rw [lk_cons_eq, e, hk]
        · rw [lk_cons_ne _ _ hj]
      exact ⟨h.dfr, h.size, h.tmps, fun j ob hh => h.objs j ob (by rw [← hl]; exact hh), fun j ob hh => h.own j ob (by rw [← hl]; exact hh),
        fun j j' ob ob' h1 h2 => h.inj j j' ob ob' (by rw [← hl]; exact h1) (by rw [← hl]; exact h2), fun j ob hh => h.sep j ob (by rw [← hl]; exact hh), h.bnd, h.sub, h.new, h.below, h.n⟩
    cases o with
    | box cs => exact ⟨S, Keeps.refl _ _, same rfl⟩
    | fz b m es => exact ⟨S, Keeps.refl _ _, same rfl⟩
    | arr b m es =>
      have hov := (h.objs k _ hk).1
      have hloc : w0.heap.size ≤ (β k).blk := by
        rcases h.own k _ hk with ⟨h1, _⟩ | h1
        · cases h1
        · exact h1
      have hlt := hov.lt
      refine ⟨fun b x => S b x ∨ (b = (β k).blk), ⟨fun _ _ h => .inl h, fun _ _ _ => rfl⟩, ?_⟩
      have hkeep : Keeps w S w (fun b x => S b x ∨ (b = (β k).blk)) := ⟨fun _ _ h => .inl h, fun _ _ _ => rfl⟩
      have hold : ∀ j ob', lk j ((k, Obj.fz b m es) :: st.o) = some ob' → j ≠ k → lk j st.o = some ob' := by
        intro j ob' hl hj
        rwa [lk_cons_ne _ _ hj] at hl
      refine ⟨h.dfr, h.size, ?_, ?_, ?_, ?_, ?_, ?_, fun b x hs => .inl (h.sub b x hs), ?_, h.below, h.n⟩
      · intro i tv hl
        obtain ⟨v, hv, hr, ho⟩ := h.tmps i tv hl
        exact ⟨v, hv, hr.keeps hkeep (TV.ok_mono (fun _ _ => rfl) ho), ho⟩
      · intro j ob' hl
        by_cases hj : j = k
        · subst hj
          rw [show (Av.frz1 st j (some (Obj.arr b m es))).o = (j, Obj.fz b m es) :: st.o from rfl, lk_cons_eq] at hl
          cases hl
          refine ⟨?_, trivial, (h.objs j _ hk).2.2⟩
          cases hov with
          | arr hb hm hlen hcap hsz ha => exact .fz hb hm hlen hcap (ha.keeps hkeep) (fun _ _ _ _ => .inr rfl)
        · obtain ⟨h1, h2, h3⟩ := h.objs j ob' (hold j ob' hl hj)
          exact ⟨h1.keeps hkeep rfl rfl (okO_mono (fun _ _ => rfl) h2), h2, h3⟩
      · intro j ob' hl
        by_cases hj : j = k
        · subst hj; exact .inr hloc
        · exact h.own j ob' (hold j ob' hl hj)
      · intro j j' ob1 ob2 hl hl' hjj
        have f : ∀ i ob', lk i ((k, Obj.fz b m es) :: st.o) = some ob' → ∃ ob'', lk i st.o = some ob'' := by
          intro i ob' hi
          by_cases hik : i = k
          · subst hik; exact ⟨_, hk⟩
          · exact ⟨_, hold i ob' hi hik⟩
        obtain ⟨o1, h1⟩ := f j ob1 hl
        obtain ⟨o2, h2⟩ := f j' ob2 hl'
        exact h.inj j j' o1 o2 h1 h2 hjj
      · intro j ob' hl hw x hs
        by_cases hj : j = k
        · subst hj
          rw [show (Av.frz1 st j (some (Obj.arr b m es))).o = (j, Obj.fz b m es) :: st.o from rfl, lk_cons_eq] at hl
          cases hl
          cases hw
        · have h1 := hold j ob' hl hj
          rcases hs with hs | hs
          · exact h.sep j ob' h1 hw x hs
          · exact h.inj j k ob' _ h1 hk hj hs
      · intro b' x hs
        rcases hs with hs | hs
        · exact h.bnd b' x hs
        · rw [hs]; exact hlt
      · intro b' x hs
        rcases hs with hs | hs
        · exact h.new b' x hs
        · rw [hs]; exact .inr hloc

theorem Sim.frz : ∀ (l : List Nat) {st : St} {S : Stable}, Sim P X w0 S0 st a w S β → ∃ S', Keeps w S w S' ∧ Sim P X w0 S0 (Av.frz st l) a w S' β
  | [], st, S, h => ⟨S, Keeps.refl _ _, h⟩
  | k :: l, st, S, h => by
    obtain ⟨S1, hk1, h1⟩ := h.frz1 k
    obtain ⟨S2, hk2, h2⟩ := Sim.frz l h1
    exact ⟨S2, hk1.trans hk2, h2⟩

theorem frz1_t (st : St) (k : Nat) (o : Option Obj) : (Av.frz1 st k o).t = st.t := by cases o <;> rfl
theorem frz_t : ∀ (l : List Nat) (st : St), (Av.frz st l).t = st.t
  | [], st => rfl
  | k :: l, st => by rw [Av.frz, frz_t l, frz1_t]

theorem evc_frz (l : List Nat) (st : St) (x : Operand) : evc (Av.frz st l) x = evc st x := by
  cases x <;> simp [evc, frz_t]

theorem fz_rep {k b m : Nat} {es : List (List T)} {v : Value} (h : OV P w S β k (.fz b m es)) (hv : RV P w S β (.own k) v) : Rep w S (.sl b es) v := by
  cases h with
  | fz hb hm hlen hcap ha hs =>
    cases hv with
    | own =>
      rw [hlen]
      cases es with
      | nil => exact .nil _ _ _
      | cons e es =>
        have hc : ∀ i j (hi : i < (e :: es).length) (hj : j < (e :: es)[i].length), ∃ v, w.cell? ⟨(β k).blk, 0 + i * m + j, none⟩ = some v ∧ Rep w S (e :: es)[i][j] v := by
          intro i j hi hj
          obtain ⟨v, hv, hr⟩ := ha.cell i j hi hj
          exact ⟨v, by rw [cell_of_block hb, Nat.zero_add]; exact hv, hr⟩
        refine .sl _ _ (β k).blk 0 m _ (fun i j => (w.cell? ⟨(β k).blk, 0 + i * m + j, none⟩).getD undef) (.inr rfl) ha.hm hcap (fun i j hi hj => by rw [Nat.zero_add]; exact hs i j hi hj) ?_ ?_
        · intro i j hi hj
          obtain ⟨v, hv, hr⟩ := hc i j hi hj
          simp only [hv, Option.getD_some]
        · intro i j hi hj
          obtain ⟨v, hv, hr⟩ := hc i j hi hj
          simp only [hv, Option.getD_some]
          exact hr

theorem rv_tv {x : DV} {v : Value} (h : RDV w S x v) : RV P w S β x.tv v := by
  cases h with
  | c h => exact .d h
  | g hl h => exact .agg (by simpa using hl) fun i hi hj => by simp only [List.getElem_map]; exact .d (h i (by simpa using hi) hj)
theorem tv_rv {x : DV} {v : Value} (h : RV P w S β x.tv v) : RDV w S x v := by
  cases x with
  | c t => exact .c (rv_d h)
  | g cs =>
    generalize hx : DV.tv (.g cs) = y at h
    cases h with
    | agg hl h =>
      cases hx
      exact .g (by simpa using hl) fun i hi hj => by
        have := h i (by simpa using hi) hj
        simp only [List.getElem_map] at this
        exact rv_d this
    | _ => cases hx
theorem tv_ok {x : DV} {p : Nat → Prop} : (DV.tv x).ok p := by
  cases x with
  | c t => trivial
  | g cs => exact okL_map_d cs

theorem FnOf.ok {f : FuncId} {g : List DV → Option DV} (h : FnOf P f g) : FnOk P w S g (.func (.func f) #[] #[]) := by
  refine ⟨f, #[], rfl, h.1, ?_⟩
  intro w' S' _ hb args res vs hg hl hr
  have := h.2 args res hg w' S' (fun _ => default) vs hb (by simpa using hl) (fun i hi hj => by simp only [List.getElem_map]; exact rv_tv (hr i (by simpa using hi) hj))
    (by rw [okL_iff]; intro x hx; obtain ⟨y, _, rfl⟩ := List.mem_map.1 hx; exact tv_ok)
  rw [Array.append_empty]
  refine this.mono ?_
  rintro e w'' ⟨r, v, S'', rfl, rfl, hr, _, hx⟩
  exact ⟨v, S'', rfl, tv_rv hr, hx⟩

theorem Le.sound (h : Sim P X w0 S0 st a w S β) {x y : TV} (hle : Le P st x y) : ∀ {v : Value}, RV P w S β x v → RV P w S β y v ∧ y.ok (fun _ => False) := by
  induction hle with
  | same ho => exact fun hr => ⟨hr, ho⟩
  | erase => exact fun hr => ⟨.d (rv_d hr).erase, trivial⟩
  | nl => intro v hr; cases hr; exact ⟨.d (.nil _ _ _), trivial⟩
  | own hk => exact fun hr => ⟨.d (fz_rep (h.objs _ _ hk).1 hr), trivial⟩
  | ownE hk => exact fun hr => ⟨.d (fz_rep (h.objs _ _ hk).1 hr).erase, trivial⟩
  | agg hl hh ih =>
    intro v hr
    cases hr with
    | agg hl2 hr =>
      refine ⟨.agg (by omega) fun i hi hj => (ih i (by omega) hi (hr i (by omega) hj)).1, ?_⟩
      show okL _ _
      rw [okL_iff]
      intro z hz
      obtain ⟨i, hi, rfl⟩ := List.mem_iff_getElem.1 hz
      exact (ih i (by omega) hi (hr i (by omega) (by omega))).2
  | clo hf =>
    intro v hr
    cases hr with
    | clo hl _ =>
      rename_i vs _
      have : vs = #[] := by
        have : vs.size = 0 := by simpa using hl.symm
        simpa using this
      subst this
      exact ⟨.fn hf.ok, trivial⟩

theorem BelowX.of_below {B : Nat} (h : Go.RowKit.Below w.heap.size w w') (hB : B ≤ w.heap.size) : BelowX B X w w' :=
  ⟨h.os, h.tape, h.output, h.size, fun k hk _ => h.block k (by omega)⟩

/-- Behind a call that writes to nothing that was there. -/
theorem Sim.ext (h : Sim P X w0 S0 st a w S β) (hx : Ext w S w' S') : Sim P X w0 S0 st a w' S' β := by
  have hk := hx.keeps h.bnd
  refine ⟨h.dfr, h.size, ?_, ?_, h.own, h.inj, ?_, hx.bnd, fun b x hs => hx.sub b x (h.sub b x hs), ?_, ?_, ?_⟩
  · intro i tv hl
    obtain ⟨v, hv, hr, ho⟩ := h.tmps i tv hl
    exact ⟨v, hv, hr.keeps hk (TV.ok_mono (fun _ _ => rfl) ho), ho⟩
  · intro j ob hl
    obtain ⟨h1, h2, h3⟩ := h.objs j ob hl
    exact ⟨h1.keeps hk (hx.below.block _ h1.lt) rfl (okO_mono (fun _ _ => rfl) h2), h2, h3⟩
  · intro j ob hl hw x hs
    rcases hx.new _ _ hs with h1 | h1
    · exact h.sep j ob hl hw x h1
    · have := (h.objs j ob hl).1.lt
      omega
  · intro b x hs
    rcases hx.new b x hs with h1 | h1
    · exact h.new b x h1
    · have := h.below.size
      exact .inr (by omega)
  · exact h.below.trans (BelowX.of_below hx.below h.below.size)
  · exact Nat.le_trans h.n hx.below.size

theorem run_callFunc {g : FuncId} {vs : Array Value} (h : Plainly P g) : (callFunc g vs).run P w = .ok (.enter g vs) w := by
  obtain ⟨fn, h1, h2, h3⟩ := h
  unfold callFunc
  simp only [Sem.run_bind, run_program, Result.andThen_ok, h1, h3, h2, Bool.false_eq_true, if_false, Sem.run_pure]

theorem onSt_iff {R : St → Prop} {x : Option St} (h : onSt R x) : ∃ st, x = some st ∧ R st := by
  cases x with
  | none => exact h.elim
  | some st => exact ⟨st, rfl, h⟩

theorem acall_sound (h : Sim P X w0 S0 st a w S β) {R : St → Prop} {o : Oper} {c : Call} {f : Operand} (ho : o.op = .call c) (hf : c.callee = .value f)
    (hc : acall P R st o.dst (evc st f) (c.args.toList.map (evc st))) (Q : Exit → Act → World → Prop) :
    o.wp P a w (fun a' w' => ∃ st', R st' ∧ SimE P X w0 S0 st' a' w') Q := by
  have E := evc_sound h
  have hfr := (E f).1
  have hfo := (E f).2
  generalize hfe : evc st f = fv at hc hfr hfo
  have hargs : ∀ i (hi : i < (c.args.toList.map (evc st)).length) (hj : i < (c.args.map a.eval).size), RV P w S β (c.args.toList.map (evc st))[i] (c.args.map a.eval)[i] := by
    intro i hi hj
    simp only [List.getElem_map, Array.getElem_map, Array.getElem_toList]
    exact (E _).1
  cases fv with
  | clo g cap =>
    obtain ⟨hp, args', post, hap, hn, hl, hle, hk⟩ := hc
    generalize hv : a.eval f = v at hfr
    cases hfr with
    | clo hcl hcr =>
      rename_i vs
      have hexec : (execOp a.eval o).run P w = .ok (.enter g ((c.args.map a.eval) ++ vs)) w := by
        unfold execOp
        rw [ho]
        simp only [resolve, hf, hv, Deferred.ofValue, Sem.run_bind, Sem.run_pure, Result.andThen_ok, invoke]
        rw [Array.empty_append]
        exact run_callFunc hp
      unfold Oper.wp
      rw [hexec, Oper.upon_enter]
      obtain ⟨S1, hk1, h1⟩ := h.frz (ownKeysL (c.args.toList.map (evc st) ++ cap))
      have hrv : ∀ i (hi : i < (c.args.toList.map (evc st) ++ cap).length) (hj : i < (c.args.map a.eval ++ vs).size), RV P w S β (c.args.toList.map (evc st) ++ cap)[i] (c.args.map a.eval ++ vs)[i] := by
        intro i hi hj
        have hsz : (c.args.toList.map (evc st)).length = (c.args.map a.eval).size := by simp
        by_cases hi1 : i < (c.args.toList.map (evc st)).length
        · rw [List.getElem_append_left hi1, Array.getElem_append_left (by omega)]
          exact hargs i hi1 (by omega)
        · rw [List.getElem_append_right (by omega), Array.getElem_append_right (by omega)]
          have hn : (c.args.toList.map (evc st)).length = c.args.size := by simp
          have hj2 : i < c.args.size + vs.size := by simpa using hj
          have := hcr (i - (c.args.toList.map (evc st)).length) (by omega) (by omega)
          simpa only [hsz] using this
      have hall : ∀ x ∈ (c.args.toList.map (evc st) ++ cap), x.ok (· ∈ st.ks) := by
        intro x hx
        rcases List.mem_append.1 hx with hx | hx
        · obtain ⟨y, _, rfl⟩ := List.mem_map.1 hx; exact (E y).2
        · have : okL (· ∈ st.ks) cap := hfo
          rw [okL_iff] at this
          exact this x hx
      have hle' : ∀ i (hi : i < args'.length) (hj : i < (c.args.map a.eval ++ vs).size), RV P w S1 β args'[i] (c.args.map a.eval ++ vs)[i] ∧ (args'[i]).ok (fun _ => False) := by
        intro i hi hj
        exact (hle i (by omega) hi).sound h1 ((hrv i (by omega) hj).keeps hk1 (TV.ok_mono (fun _ _ => rfl) (hall _ (List.getElem_mem _))))
      have hcalls := hap w S1 β (c.args.map a.eval ++ vs) h1.bnd (by rw [← hl]; simp [hcl]) (fun i hi hj => (hle' i hi hj).1)
        (by rw [okL_iff]; intro z hz; obtain ⟨i, hi, rfl⟩ := List.mem_iff_getElem.1 hz; exact (hle' i hi (by rw [← hl] at hi; simp [← hcl]; simpa using hi)).2)
      refine hcalls.mono ?_
      rintro e w'' ⟨r, v, S2, rfl, hpost, hr, hro, hx⟩
      obtain ⟨st', he, hR⟩ := onSt_iff (hk _ _ r h.n hx.below.size hpost)
      have h2 := (h1.ext hx).setN (Nat.le_refl w''.heap.size)
      exact ⟨st', hR, _, _, h2.put hr (TV.ok_mono (fun _ hf => hf.elim) hro) he⟩
  | fn g =>
    obtain ⟨dvs, res, hg, hl, hle, hk⟩ := hc
    generalize hv : a.eval f = v at hfr
    cases hfr with
    | fn hok =>
      obtain ⟨g', vs, rfl, hp, hok⟩ := hok
      have hexec : (execOp a.eval o).run P w = .ok (.enter g' ((c.args.map a.eval) ++ vs)) w := by
        unfold execOp
        rw [ho]
        simp only [resolve, hf, hv, Deferred.ofValue, Sem.run_bind, Sem.run_pure, Result.andThen_ok, invoke]
        rw [Array.empty_append]
        exact run_callFunc hp
      unfold Oper.wp
      rw [hexec, Oper.upon_enter]
      have hcalls := hok w S (Keeps.refl _ _) h.bnd dvs res (c.args.map a.eval) hg (by rw [← hl]; simp)
        (fun i hi hj => tv_rv (P := P) (β := β) (((hle i (by omega) hi).sound h (hargs i (by omega) hj)).1))
      refine hcalls.mono ?_
      rintro e w'' ⟨v, S2, rfl, hr, hx⟩
      obtain ⟨st', he, hR⟩ := onSt_iff (hk w''.heap.size (Nat.le_trans h.n hx.below.size))
      have h2 := (h.ext hx).setN (Nat.le_refl w''.heap.size)
      exact ⟨st', hR, _, _, h2.put (rv_tv hr) tv_ok he⟩
  | _ => exact hc.elim
end
end Go.Av

namespace Go.Av
section
variable {P : Program} {X : Nat → Prop} {w0 w w' : World} {S0 S S' : Stable} {st st' : St} {a : Act} {β β' : Places}

/-- One block's cells were turned, and nothing else. -/
structure Turned (w w' : World) (b : Nat) (cs : List Value) (e : TypeId) : Prop where
  os : w'.os = w.os
  tape : w'.tape = w.tape
  output : w'.output = w.output
  size : w'.heap.size = w.heap.size
  here : w'.heap[b]? = some (.cells cs.toArray e (0, 0))
  other : ∀ k, k ≠ b → w'.heap[k]? = w.heap[k]?

theorem setSeg_len {α : Type} {off : Nat} {new cs : List α} (h : off + new.length ≤ cs.length) : (setSeg off new cs).length = cs.length := by
  simp [setSeg]; omega

theorem run_storeCells {b off : Nat} {e : TypeId} : ∀ (vs : List Value) (i : Nat) (w : World) (cs : List Value), w.heap[b]? = some (.cells cs.toArray e (0, 0)) →
    off + i + vs.length ≤ cs.length → (∀ v ∈ vs, v.oneCell' = true) →
    ∃ w', (storeCells ⟨b, off, none⟩ vs i).run P w = .ok () w' ∧ Turned w w' b (setSeg (off + i) vs cs) e := by
  intro vs
  induction vs with
  | nil =>
    intro i w cs hb hl hv
    refine ⟨w, rfl, rfl, rfl, rfl, rfl, ?_, fun _ _ => rfl⟩
    simp [setSeg, hb]
  | cons v vs ih =>
    intro i w cs hb hl hv
    simp only [List.length_cons] at hl
    have hcell : w.cell? ⟨b, off + i, none⟩ = some (cs[off + i]'(by omega)) := by
      rw [cell_of_block hb]
      simp
    have hfz : w.frozen? ⟨b, off + i, none⟩ = false := by
      simp [World.frozen?, hb]
    have hst : (store ((⟨b, off, none⟩ : Addr).add i) v).run P w = .ok () (w.setCell ⟨b, off + i, none⟩ v) := by
      rw [Addr_add, run_store P w _ v .plain (hv v (by simp)), hcell]
      simp [hfz]
    have hb1 : (w.setCell ⟨b, off + i, none⟩ v).heap[b]? = some (.cells (cs.set (off + i) v).toArray e (0, 0)) := by
      simp only [World.setCell, Array.getElem?_modify, if_true, hb, Option.map_some]
      simp
    obtain ⟨w', hrun, ht⟩ := ih (i + 1) (w.setCell ⟨b, off + i, none⟩ v) (cs.set (off + i) v) hb1 (by simp; omega) (fun x hx => hv x (by simp [hx]))
    refine ⟨w', ?_, ?_⟩
    · simp only [storeCells, Sem.run_bind, hst, Result.andThen_ok]
      exact hrun
    · refine ⟨ht.os, ht.tape, ht.output, by rw [ht.size]; simp, ?_, fun k hk => ?_⟩
      · rw [ht.here]
        congr 3
        simp only [setSeg]
        rw [show off + (i + 1) = off + i + 1 by omega]
        have e1 : (cs.set (off + i) v).take (off + i + 1) = cs.take (off + i) ++ [v] := by
          rw [List.take_succ_eq_append_getElem (by simp; omega), List.take_set_of_le (Nat.le_refl _)]
          simp
        have e2 : (cs.set (off + i) v).drop (off + i + 1 + vs.length) = cs.drop (off + i + (v :: vs).length) := by
          rw [List.drop_set_of_lt (by omega)]
          congr 1
          simp; omega
        rw [e1, e2]
        simp
      · rw [ht.other k hk]
        exact Go.RowKit.Below.heap_setCell _ _ _ _ hk

theorem Turned.cell {b : Nat} {cs : List Value} {e : TypeId} (h : Turned w w' b cs e) {k x : Nat} (hk : k ≠ b) : w'.cell? ⟨k, x, none⟩ = w.cell? ⟨k, x, none⟩ := by
  simp only [World.cell?, h.other k hk]

theorem Turned.belowX {b B : Nat} {cs : List Value} {e : TypeId} (h : Turned w w' b cs e) (hb : X b ∨ B ≤ b) : BelowX B X w w' := by
  refine ⟨h.os, h.tape, h.output, by rw [h.size]; exact Nat.le_refl _, fun k hk hx => h.other k ?_⟩
  intro e
  subst e
  rcases hb with h1 | h1
  · exact hx h1
  · omega

/-- An object of the state turned. -/
theorem Sim.turn (h : Sim P X w0 S0 st a w S β) {k : Nat} {o o' : Obj} {cs : List Value} {e : TypeId} (hk : lk k st.o = some o) (hw : o.writable = true) (hbox : o'.isBox = o.isBox) (hw' : o'.writable = true)
    (ht : Turned w w' (β k).blk cs e) (hok : o'.okO (· ∈ st.ks)) (hov : Keeps w S w' S → OV P w' S β k o') :
    Sim P X w0 S0 { t := st.t, o := (k, o') :: st.o, ks := st.ks, n := st.n, sz := st.sz } a w' S β := by
  have hkeep : Keeps w S w' S := ⟨fun _ _ h => h, fun b x hs => ht.cell (fun e => h.sep k o hk hw x (e ▸ hs))⟩
  have hold : ∀ j ob', lk j ((k, o') :: st.o) = some ob' → j ≠ k → lk j st.o = some ob' := by
    intro j ob' hl hj
    rwa [lk_cons_ne _ _ hj] at hl
  have hback : ∀ j ob', lk j ((k, o') :: st.o) = some ob' → ∃ ob'', lk j st.o = some ob'' ∧ (j = k → ob'' = o ∧ ob' = o') ∧ (j ≠ k → ob'' = ob') := by
    intro j ob' hl
    by_cases hj : j = k
    · subst hj; rw [lk_cons_eq] at hl; cases hl; exact ⟨o, hk, fun _ => ⟨rfl, rfl⟩, fun h => absurd rfl h⟩
    · exact ⟨ob', hold j ob' hl hj, fun h => absurd h hj, fun _ => rfl⟩
  refine ⟨h.dfr, h.size, ?_, ?_, ?_, ?_, ?_, ?_, h.sub, h.new, ?_, ?_⟩
  · intro i tv hl
    obtain ⟨v, hv, hr, ho⟩ := h.tmps i tv hl
    exact ⟨v, hv, hr.keeps hkeep (TV.ok_mono (fun _ _ => rfl) ho), ho⟩
  · intro j ob' hl
    by_cases hj : j = k
    · subst hj
      rw [show ({ t := st.t, o := (j, o') :: st.o, ks := st.ks, n := st.n, sz := st.sz } : St).o = (j, o') :: st.o from rfl, lk_cons_eq] at hl
      cases hl
      exact ⟨hov hkeep, hok, (h.objs j o hk).2.2⟩
    · obtain ⟨h1, h2, h3⟩ := h.objs j ob' (hold j ob' hl hj)
      exact ⟨h1.keeps hkeep (ht.other _ (h.inj j k ob' o (hold j ob' hl hj) hk hj)) rfl (okO_mono (fun _ _ => rfl) h2), h2, h3⟩
  · intro j ob' hl
    obtain ⟨ob'', h1, h2, h3⟩ := hback j ob' hl
    by_cases hj : j = k
    · obtain ⟨rfl, rfl⟩ := h2 hj
      rw [hbox]; exact h.own j _ h1
    · rw [← h3 hj]; exact h.own j _ h1
  · intro j j' ob1 ob2 hl hl' hjj
    obtain ⟨_, h1, _⟩ := hback j ob1 hl
    obtain ⟨_, h2, _⟩ := hback j' ob2 hl'
    exact h.inj j j' _ _ h1 h2 hjj
  · intro j ob' hl hw2 x
    obtain ⟨ob'', h1, h2, h3⟩ := hback j ob' hl
    by_cases hj : j = k
    · obtain ⟨rfl, rfl⟩ := h2 hj
      exact h.sep j _ h1 hw x
    · exact h.sep j _ h1 (by rw [h3 hj]; exact hw2) x
  · intro b x hs; rw [ht.size]; exact h.bnd b x hs
  · refine h.below.trans (ht.belowX ?_)
    rcases h.own k o hk with ⟨_, h1⟩ | h1
    · exact .inl h1
    · exact .inr h1
  · show st.n ≤ w'.heap.size
    rw [ht.size]; exact h.n

theorem single_cells {tv : TV} {v : Value} (h : RV P w S β tv v) (hs : single tv = true) : v.oneCell' = true := by
  cases tv <;> simp [single] at hs <;> exact (h.oneCell (by simp) (by simp) (by simp)).2

theorem run_storeAt {t : TypeId} {b off : Nat} {cs : List Value} {e : TypeId} {v : Value} (hb : w.heap[b]? = some (.cells cs.toArray e (0, 0))) (hi : 0 < tySize P t) (hs : v.cells.size = tySize P t)
    (hl : off + v.cells.size ≤ cs.length) (h1 : ∀ x ∈ v.cells.toList, x.oneCell' = true) :
    ∃ w', (Instr.storeAt t (.pointer (some ⟨b, off, none⟩)) v).run P w = .ok () w' ∧ Turned w w' b (setSeg off v.cells.toList cs) e := by
  obtain ⟨i, hi, hsz⟩ := info_of_size hi
  obtain ⟨w', hrun, ht⟩ := run_storeCells (P := P) (off := off) v.cells.toList 0 w cs hb (by simp; omega) h1
  rw [Nat.add_zero] at ht
  refine ⟨w', ?_, ht⟩
  have : ¬ v.cells.size ≠ i.size := by rw [hs, hsz]; simp
  simp only [Instr.storeAt, Instr.sureAddr, Sem.run_bind, Sem.run_pure, Result.andThen_ok, storeVar, sizeOf, typeInfo, run_program, hi, if_neg this]
  exact hrun

theorem toTs_sound (h : Sim P X w0 S0 st a w S β) : ∀ (l : List TV) (ts : List T) (vs : List Value), toTs st l = some ts → l.length = vs.length →
    (∀ i (hi : i < l.length) (hj : i < vs.length), RV P w S β l[i] vs[i]) → ts.length = l.length ∧ ∀ i (hi : i < ts.length) (hj : i < vs.length), Rep w S ts[i] vs[i] := by
  intro l
  induction l with
  | nil => intro ts vs e hl hr; cases e; exact ⟨rfl, fun i hi => absurd hi (by simp)⟩
  | cons x l ih =>
    intro ts vs e hl hr
    cases vs with
    | nil => simp at hl
    | cons v vs =>
      have key : ∀ (t : T) (r : List T), Rep w S t v → toTs st l = some r → ts = t :: r → ts.length = (x :: l).length ∧ ∀ i (hi : i < ts.length) (hj : i < (v :: vs).length), Rep w S ts[i] (v :: vs)[i] := by
        rintro t r ht hr2 rfl
        obtain ⟨h1, h2⟩ := ih r vs hr2 (by simpa using hl) (fun i hi hj => by have := hr (i + 1) (by simpa using hi) (by simpa using hj); simpa using this)
        refine ⟨by simp [h1], fun i hi hj => ?_⟩
        cases i with
        | zero => simpa using ht
        | succ i => simpa using h2 i (by simpa using hi) (by simpa using hj)
      have h0 := hr 0 (by simp) (by simp)
      simp only [List.getElem_cons_zero] at h0
      cases x <;> simp only [toTs] at e <;> try (cases e; done)
      · obtain ⟨r, hr2, e⟩ := ob_eq_some e
        exact key _ r (rv_d h0) hr2 (by cases e; rfl)
      · obtain ⟨r, hr2, e⟩ := ob_eq_some e
        refine key (.sl 0 []) r ?_ hr2 (by cases e; rfl)
        cases h0; exact .nil _ _ _
      · rename_i k
        split at e
        · rename_i b m es hk
          obtain ⟨r, hr2, e⟩ := ob_eq_some e
          exact key _ r (fz_rep (h.objs k _ hk).1 h0) hr2 (by cases e; rfl)
        · cases e
end
end Go.Av

namespace Go.Av
section
variable {P : Program} {X : Nat → Prop} {w0 w w' : World} {S0 S S' : Stable} {st st' : St} {a : Act} {β β' : Places}

theorem setSeg_get {α : Type} {off : Nat} {new cs : List α} (h : off + new.length ≤ cs.length) (x : Nat) :
    (setSeg off new cs)[x]? = if off ≤ x ∧ x < off + new.length then new[x - off]? else cs[x]? := by
  simp only [setSeg, List.getElem?_append, List.length_take, List.getElem?_take, List.getElem?_drop]
  have e : min off cs.length = off := by omega
  rw [e]
  by_cases h1 : x < off
  · rw [if_pos h1, if_pos h1, if_neg (by omega)]
  · rw [if_neg h1]
    by_cases h2 : x - off < new.length
    · rw [if_pos h2, if_pos (by omega)]
    · rw [if_neg h2, if_neg (by omega)]
      congr 1
      omega

theorem seg_rel {α γ : Type} {R : α → γ → Prop} {off : Nat} {new cs : List α} {nv vs : List γ} (hl : cs.length = vs.length) (hn : new.length = nv.length) (hb : off + new.length ≤ cs.length)
    (h1 : ∀ i (hi : i < cs.length) (hj : i < vs.length), R cs[i] vs[i]) (h2 : ∀ i (hi : i < new.length) (hj : i < nv.length), R new[i] nv[i]) :
    ∀ i (hi : i < (setSeg off new cs).length) (hj : i < (setSeg off nv vs).length), R (setSeg off new cs)[i] (setSeg off nv vs)[i] := by
  intro i hi hj
  have e1 := setSeg_get hb i
  have e2 := setSeg_get (new := nv) (cs := vs) (off := off) (by omega) i
  rw [List.getElem?_eq_getElem hi] at e1
  rw [List.getElem?_eq_getElem hj] at e2
  by_cases h : off ≤ i ∧ i < off + new.length
  · rw [if_pos h] at e1
    rw [if_pos (by omega)] at e2
    have a1 : i - off < new.length := by omega
    have a2 : i - off < nv.length := by omega
    rw [List.getElem?_eq_getElem a1] at e1
    rw [List.getElem?_eq_getElem a2] at e2
    rw [Option.some.inj e1, Option.some.inj e2]
    exact h2 _ a1 a2
  · rw [if_neg h] at e1
    rw [if_neg (by omega)] at e2
    have hi' : i < cs.length := by rw [setSeg_len hb] at hi; exact hi
    have hj' : i < vs.length := by omega
    rw [List.getElem?_eq_getElem hi'] at e1
    rw [List.getElem?_eq_getElem hj'] at e2
    rw [Option.some.inj e1, Option.some.inj e2]
    exact h1 _ hi' hj'

theorem mem_setSeg {α : Type} {off : Nat} {new cs : List α} {x : α} (h : x ∈ setSeg off new cs) : x ∈ cs ∨ x ∈ new := by
  simp only [setSeg, List.mem_append] at h
  rcases h with h | h | h
  · exact .inl (List.mem_of_mem_take h)
  · exact .inr h
  · exact .inl (List.mem_of_mem_drop h)

theorem all_single {new : List TV} {nv : List Value} (hl : new.length = nv.length) (h : ∀ i (hi : i < new.length) (hj : i < nv.length), RV P w S β new[i] nv[i]) (hs : ∀ x ∈ new, single x = true) :
    ∀ v ∈ nv, v.oneCell' = true := by
  intro v hv
  obtain ⟨i, hi, rfl⟩ := List.mem_iff_getElem.1 hv
  exact single_cells (h i (by omega) hi) (hs _ (List.getElem_mem _))

theorem toTs_single : ∀ (l : List TV) (ts : List T), toTs st l = some ts → ∀ x ∈ l, single x = true := by
  intro l
  induction l with
  | nil => intro ts _ x hx; cases hx
  | cons y l ih =>
    intro ts e x hx
    cases y <;> simp only [toTs] at e <;> try (cases e; done)
    · obtain ⟨r, hr, _⟩ := ob_eq_some e
      rcases List.mem_cons.1 hx with rfl | hx
      · rfl
      · exact ih r hr x hx
    · obtain ⟨r, hr, _⟩ := ob_eq_some e
      rcases List.mem_cons.1 hx with rfl | hx
      · rfl
      · exact ih r hr x hx
    · split at e
      · obtain ⟨r, hr, _⟩ := ob_eq_some e
        rcases List.mem_cons.1 hx with rfl | hx
        · rfl
        · exact ih r hr x hx
      · cases e

theorem storeAt_sound (h : Sim P X w0 S0 st a w S β) {t : TypeId} {tv : TV} {new : List TV} {u v : Value} (hz : 0 < tySize P t) (hx : RV P w S β tv u) (hl : new.length = v.cells.size)
    (hn : ∀ i (hi : i < new.length) (hj : i < v.cells.size), RV P w S β new[i] v.cells[i]) (hok : okL (· ∈ st.ks) new) (e : storeAt st (tySize P t) new tv = some st') :
    ∃ w', (Instr.storeAt t u v).run P w = .ok () w' ∧ SimE P X w0 S0 st' a w' := by
  have hn' : ∀ i (hi : i < new.length) (hj : i < v.cells.toList.length), RV P w S β new[i] v.cells.toList[i] := by
    intro i hi hj; simp only [Array.getElem_toList]; exact hn i hi (by omega)
  have hl' : new.length = v.cells.toList.length := by simpa using hl
  cases hx with
  | ptr k off =>
    simp only [storeAt] at e
    obtain ⟨o, ho, e⟩ := ob_eq_some e
    obtain ⟨hov, hoo, hok2⟩ := h.objs k o ho
    cases hov with
    | box hb hbl hbv =>
      rename_i cs vs el
      simp only [storeObj, storeBox] at e
      obtain ⟨_, h1, e⟩ := ob_eq_some e
      cases e
      obtain ⟨h2, h3⟩ := chk2 h1
      simp only [Bool.and_eq_true, decide_eq_true_eq, List.all_eq_true] at h3
      obtain ⟨h3, h4⟩ := h3
      have h2 : new.length = tySize P t := by simpa using h2
      have hb' : w.heap[(β k).blk]? = some (.cells vs.toList.toArray el (0, 0)) := by simpa using hb
      obtain ⟨w', hrun, ht⟩ := run_storeAt (v := v) (off := off) hb' hz (by omega) (by simp; omega) (all_single hl' hn' h4)
      refine ⟨w', hrun, S, β, h.turn ho rfl rfl rfl ht ?_ ?_⟩
      · show okL _ _
        rw [okL_iff] at *
        intro x hx
        rcases mem_setSeg hx with hx | hx
        · exact (okL_iff.1 hoo) x hx
        · exact hok x hx
      · intro hkeep
        refine .box (vs := (setSeg off v.cells.toList vs.toList).toArray) ht.here ?_ ?_
        · rw [setSeg_len h3, List.size_toArray, setSeg_len (by simp; omega)]
          simpa using hbl
        · intro i hi hj
          have := seg_rel (R := RV P w S β) (off := off) (new := new) (cs := cs) (nv := v.cells.toList) (vs := vs.toList) (by simpa using hbl) hl' h3
            (fun i hi hj => by simp only [Array.getElem_toList]; exact hbv i hi (by simpa using hj)) hn' i hi (by simpa using hj)
          simp only [List.getElem_toArray]
          refine this.keeps hkeep (TV.ok_mono (p := fun _ => True) (fun _ _ => rfl) ?_)
          refine TV.ok_mono (fun _ _ => trivial) (p := (· ∈ st.ks)) ?_
          rcases mem_setSeg (List.getElem_mem hi) with hx | hx
          · exact (okL_iff.1 hoo) _ hx
          · exact (okL_iff.1 hok) _ hx
    | arr => simp [storeObj] at e
    | fz => simp [storeObj] at e
  | ap k i f =>
    simp only [storeAt] at e
    obtain ⟨S1, hk1, h1⟩ := h.frz (ownKeysL new)
    obtain ⟨o, ho, e⟩ := ob_eq_some e
    obtain ⟨hov, hoo, hok2⟩ := h1.objs k o ho
    cases hov with
    | box => simp [storeObj] at e
    | fz => simp [storeObj] at e
    | arr hb hm hlen hcap hsz ha =>
      rename_i m es vs el
      simp only [storeObj, storeArr] at e
      obtain ⟨x, hx, e⟩ := ob_eq_some e
      obtain ⟨ts, hts, e⟩ := ob_eq_some e
      obtain ⟨_, h2, e⟩ := ob_eq_some e
      cases e
      obtain ⟨h2, h3⟩ := chk2 h2
      have h3 := of_decide_eq_true h3
      have h2 : ts.length = tySize P t := by simpa using h2
      obtain ⟨hi, rfl⟩ := List.getElem?_eq_some_iff.1 hx
      have hn1 : ∀ i (hi : i < new.length) (hj : i < v.cells.toList.length), RV P w S1 β new[i] v.cells.toList[i] := fun i hi hj =>
        (hn' i hi hj).keeps hk1 (TV.ok_mono (fun _ _ => rfl) (okL_get hok i hi))
      obtain ⟨ht1, ht2⟩ := toTs_sound h1 new ts v.cells.toList hts hl' hn1
      have hxm : (es[i]).length = m := ha.hm _ (List.getElem_mem hi)
      have hvl : v.cells.toList.length = ts.length := by omega
      have him : i * m + m ≤ vs.size := by
        have h5 : (i + 1) * m ≤ (β k).cap * m := Nat.mul_le_mul_right m (by omega)
        have : (i + 1) * m = i * m + m := Nat.succ_mul i m
        omega
      have hb' : w.heap[(β k).blk]? = some (.cells vs.toList.toArray el (0, 0)) := by simpa using hb
      obtain ⟨w', hrun, htn⟩ := run_storeAt (v := v) (off := i * m + f) hb' hz (by simp at hvl; omega) (by simp at hvl ⊢; omega) (all_single hl' hn' (toTs_single new ts hts))
      rw [hm]
      refine ⟨w', hrun, S1, β, h1.turn ho rfl rfl rfl htn trivial ?_⟩
      intro hkeep
      have hsl : (setSeg (i * m + f) v.cells.toList vs.toList).length = vs.size := by rw [setSeg_len (by simp at hvl ⊢; omega)]; simp
      refine .arr (vs := (setSeg (i * m + f) v.cells.toList vs.toList).toArray) htn.here hm (by simpa using hlen) (by simpa using hcap) (by rw [List.size_toArray, hsl]; exact hsz) ⟨?_, ?_⟩
      · intro y hy
        rcases List.mem_or_eq_of_mem_set hy with hy | rfl
        · exact ha.hm y hy
        · rw [setSeg_len h3]; exact hxm
      · intro i' j' hi' hj'
        have hi2 : i' < es.length := by simpa using hi'
        simp only [List.getElem?_toArray]
        rw [setSeg_get (by simp at hvl ⊢; omega)]
        by_cases hii : i' = i
        · subst hii
          simp only [List.getElem_set_self] at hj' ⊢
          have hj3 : j' < (es[i']).length := by rw [setSeg_len h3] at hj'; exact hj'
          have e1 := setSeg_get h3 j'
          rw [List.getElem?_eq_getElem hj'] at e1
          by_cases hseg : f ≤ j' ∧ j' < f + ts.length
          · rw [if_pos hseg] at e1
            have a1 : j' - f < ts.length := by omega
            rw [List.getElem?_eq_getElem a1] at e1
            rw [if_pos (by omega), Option.some.inj e1]
            have a2 : j' - f < v.cells.toList.length := by omega
            refine ⟨v.cells.toList[j' - f], ?_, (ht2 _ a1 a2).keeps hkeep⟩
            rw [show i' * m + j' - (i' * m + f) = j' - f by omega]
            exact List.getElem?_eq_getElem a2
          · rw [if_neg hseg] at e1
            rw [List.getElem?_eq_getElem hj3] at e1
            rw [if_neg (by omega), Option.some.inj e1]
            obtain ⟨z, hz1, hz2⟩ := ha.cell i' j' hi2 hj3
            exact ⟨z, by simpa using hz1, hz2.keeps hkeep⟩
        · simp only [List.getElem_set_ne (Ne.symm hii)] at hj' ⊢
          have hjm : j' < m := by rw [← ha.hm _ (List.getElem_mem hi2)]; exact hj'
          rw [if_neg]
          · obtain ⟨z, hz1, hz2⟩ := ha.cell i' j' hi2 hj'
            exact ⟨z, by simpa using hz1, hz2.keeps hkeep⟩
          · rcases Nat.lt_or_gt_of_ne hii with h6 | h6
            · have : (i' + 1) * m ≤ i * m := Nat.mul_le_mul_right m h6
              have e7 : (i' + 1) * m = i' * m + m := Nat.succ_mul i' m
              omega
            · have : (i + 1) * m ≤ i' * m := Nat.mul_le_mul_right m h6
              have e7 : (i + 1) * m = i * m + m := Nat.succ_mul i m
              omega
  | _ => simp [storeAt] at e
end
end Go.Av
