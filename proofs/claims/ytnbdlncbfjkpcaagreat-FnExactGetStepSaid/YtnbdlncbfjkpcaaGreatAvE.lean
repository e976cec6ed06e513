/- Contracts of the library; arguments opened. -/
import Derived.Test.YtnbdlncbfjkpcaaGreatAvD
import Derived.Lib.Bytealg
import Derived.Laws.Externs
import Derived.Sort.Grow
import Derived.Sort.EncStr
import Derived.Shelf.Spec.SlicesGrow
import Derived.Test.YtnbdlncbfjkpcaaGreatAvA
import Derived.ChangeArms
import Derived.Carry
import Derived.SizedLaws
import Derived.DataReads
import Derived.ChangeOld
import Derived.ShutString
import Derived.WideShapes
import Derived.RowKit
import Derived.Below
set_option linter.all false
set_option linter.unusedVariables false
set_option linter.unusedSimpArgs false

section
set_option linter.unusedVariables false
set_option linter.unusedSimpArgs false
set_option linter.unusedSectionVars false
namespace Go.Av
section
variable [Known] {P : Program} {X : Nat → Prop} {β0 : Places} {w0 w : World} {S0 S : Stable} {st : St} {a : Act} {β : Places}

end
end Go.Av
end

section
set_option linter.unusedVariables false
namespace Go.Av

/-- What the comparison of two strings gives. -/
def cmpE : List TV → Option TV
  | [.d (.s a), .d (.s b)] => some (.d (.i .i64 (Go.Lib.compareBytes a.data.toList b.data.toList)))
  | _ => none
/-- A pointer as it is. -/
def noescE : List TV → Option TV
  | [.ptr k o] => some (.ptr k o)
  | _ => none
theorem noesc_ext [Known] {P : Program} {g : FuncId} {fn : Func} (hf : P.funcs[g]? = some fn) (hname : (fn.name == "runtime.NumGoroutine") = false) (hb : fn.body.isNone = true) (hn : Extern.findNext fn = none)
    (he : Extern.find fn = some Extern.AbiNoEscape.same) : ExtOk P g noescE := by
  intro w S β tvs vs res h hl hr
  unfold noescE at h
  split at h
  · rename_i k o
    cases h
    have h0 := hr 0 (by simp) (by rw [← hl]; simp)
    have hv : ∃ v, vs = #[v] := by
      refine ⟨vs[0]'(by rw [← hl]; simp), ?_⟩
      apply Array.ext
      · simpa using hl.symm
      · intro i hi hj
        have : i = 0 := by simpa using hj
        subst this
        rfl
    obtain ⟨v, rfl⟩ := hv
    refine ⟨v, ?_, h0, fun p hk => hk.1⟩
    rw [run_callFunc_extern hf hname hb hn he]
    rfl
  · cases h
theorem cmp_ext [Known] {P : Program} {g : FuncId} {fn : Func} (hf : P.funcs[g]? = some fn) (hname : (fn.name == "runtime.NumGoroutine") = false) (hb : fn.body.isNone = true) (hn : Extern.findNext fn = none)
    (he : Extern.find fn = some Extern.BytealgCompare.compare) : ExtOk P g cmpE := by
  intro w S β tvs vs res h hl hr
  unfold cmpE at h
  split at h
  · rename_i a b
    cases h
    have h0 := hr 0 (by simp) (by rw [← hl]; simp)
    have h1 := hr 1 (by simp) (by rw [← hl]; simp)
    have e0 := rv_str h0
    have e1 := rv_str h1
    have hv : vs = #[.string a, .string b] := by
      apply Array.ext
      · simpa using hl.symm
      · intro i hi hj
        have : i < 2 := by simpa using hj
        match i, this with
        | 0, _ => simpa using e0
        | 1, _ => simpa using e1
    refine ⟨_, ?_, .d (.i .i64 _), fun _ _ => trivial⟩
    rw [hv, run_callFunc_extern hf hname hb hn he, Go.Lib.run_compareString]
    rfl
  · cases h
end Go.Av
end

section
set_option autoImplicit false
set_option linter.unusedVariables false
set_option linter.unusedSectionVars false
namespace Go.Av
open Go.Sort
section
variable [Known] {P : Program}

def sStr (l : List ByteArray) : List ByteArray := ((l.map fun s => s.data.toList).mergeSort fun x y => decide (x ≤ y)).map fun s => ⟨s.toArray⟩
theorem sStr_len (l : List ByteArray) : (sStr l).length = l.length := by simp [sStr, List.length_mergeSort]

end
end Go.Av
end

section
set_option linter.unusedVariables false
/- slices.Grow at the nil slice, as an oracle. -/
namespace Go.Av
end Go.Av
end

section
set_option linter.unusedVariables false
set_option autoImplicit false
namespace Go.Av

/-- The shapes of cells: what a type's cells hold. -/
inductive Sh where
  | b
  | i (k : IntKind)
  | s
  | sl (m : List Sh)

inductive Is : T → Sh → Prop where
  | b (x : Bool) : Is (.b x) .b
  | i (k : IntKind) (n : Int) (h : (Lit.int k n).wf = true) : Is (.i k n) (.i k)
  | s (x : ByteArray) (h : x.size ≤ 140737488351232) : Is (.s x) .s
  | sl (es : List (List T)) (m : List Sh) (h : es.length ≤ 140737488351232) (hl : ∀ e ∈ es, e.length = m.length) (hs : ∀ e ∈ es, ∀ (j : Nat) (t : T) (sh : Sh), e[j]? = some t → m[j]? = some sh → Is t sh) : Is (.sl .any es) (.sl m)

section
variable {H : Type} {enc : TypeId × Value → H} {P : Program} {w : World} {spare : Nat → Bool} {held : Bool}

def inHeap (w : World) : Stable := ⟨fun b _ => b < w.heap.size, fun _ _ => False⟩
/-- Cells off on read as trees of these shapes. -/
def Reads (w : World) (ts : List T) (shs : List Sh) (cs : List Value) : Prop :=
  ts.length = shs.length ∧ cs.length = shs.length ∧ ∀ (j : Nat) (t : T) (sh : Sh) (v : Value), ts[j]? = some t → shs[j]? = some sh → cs[j]? = some v → Is t sh ∧ Rep w (inHeap w) t v

theorem Reads.one {t : T} {sh : Sh} {v : Value} (h1 : Is t sh) (h2 : Rep w (inHeap w) t v) : Reads w [t] [sh] [v] := by
  refine ⟨rfl, rfl, ?_⟩
  intro j t' sh' v' a b c
  cases j with
  | zero => simp at a b c; subst a; subst b; subst c; exact ⟨h1, h2⟩
  | succ j => simp at a
theorem Reads.append {ts ts' : List T} {l l' : List Sh} {cs cs' : List Value} (h : Reads w ts l cs) (h' : Reads w ts' l' cs') : Reads w (ts ++ ts') (l ++ l') (cs ++ cs') := by
  obtain ⟨a1, a2, a3⟩ := h
  obtain ⟨b1, b2, b3⟩ := h'
  refine ⟨by simp [a1, b1], by simp [a2, b2], ?_⟩
  intro j t sh v x y z
  by_cases hj : j < l.length
  · rw [List.getElem?_append_left (by omega)] at x y z
    exact a3 j t sh v x y z
  · rw [List.getElem?_append_right (by omega)] at x y z
    rw [a1] at x
    rw [a2] at z
    exact b3 _ t sh v x y z

end
end Go.Av
end

section
set_option autoImplicit false
set_option linter.unusedVariables false
namespace Go.Av

def noPl : Places := fun _ => default
section
variable {H : Type} {enc : TypeId × Value → H} {P : Program} {w : World}

/-- Arguments read behind the call as they did. -/
theorem trodAll_stays {W W' : World} (hl : laidOutB P = true) (hb : Go.RowKit.Below W.heap.size W W') : ∀ {ts : List TypeId} {vs : List Value} {ds : List (DataW H)} {ps : List MemPlace},
    (∀ t ∈ ts, P.readableRec t = true ∧ t < P.types.size) → DataW.TrodAll enc P W 0 (fun _ => true) true ts vs ds ps → DataW.TrodAll enc P W' 0 (fun b => decide (b < W.heap.size)) true ts vs ds ps
  | [], [], [], _, _, h => h
  | t :: ts, v :: vs, d :: ds, ps, hr, ⟨p, q, h1, h2, e⟩ => by
    have hlt : ∀ x ∈ p, x.block < W.heap.size := by
      obtain ⟨n, h1⟩ := h1
      exact DataW.trod_lt n _ _ _ h1
    obtain ⟨a, b⟩ := hr t (List.mem_cons_self ..)
    exact ⟨p, q, Go.RowKit.Below.trod hl a b h1 hb hlt, trodAll_stays hl hb (fun t' ht => hr t' (List.mem_cons_of_mem _ ht)) h2, e⟩
end

theorem Is.int {t : T} {k : IntKind} (h : Is t (.i k)) : ∃ n, t = .i k n := by cases h with | i _ n _ => exact ⟨n, rfl⟩
theorem Is.bool {t : T} (h : Is t .b) : ∃ n, t = .b n := by cases h with | b n => exact ⟨n, rfl⟩
end Go.Av
end
