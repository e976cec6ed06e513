/- Texts that the last one goes by: Base, Rel, Mach, Snd1, Snd2, Snd3, Snd4, Snd5, Snd6, Mach2. -/
import Derived.Calls
import Derived.Laws.World
import Derived.Laws.Sem
import Derived.Below
import Derived.Laws.AppendOwn
import Derived.Laws.StructEq
import Derived.LaidEqlPtr
import Derived.Lib.Builder
import Derived.Lib.UnsafeStr
set_option linter.all false
set_option linter.unusedVariables false
set_option linter.unusedSimpArgs false
section
namespace Go.Av
inductive Ann where
  | any
  | blk (b : Nat) (ty : Option TypeId := none)
  | sat (A : Nat → Prop)
  | u8 (e : TypeId)
  | nilA
  | tok (q : List Nat)
def Ann.has : Ann → Nat → Prop
  | .any, _ => True
  | .blk b _, x => x = b
  | .u8 _, _ => True
  | .nilA, _ => False
  | .tok _, _ => True
  | .sat A, x => A x
def Ann.tag : Ann → Option TypeId
  | .blk _ ty => ty
  | .u8 e => some e
  | _ => none
def apTag (el : TypeId) : Ann → Option TypeId
  | .nilA => some el
  | A => if A.tag = some el then some el else none
inductive T where
  | b (x : Bool)
  | i (k : IntKind) (n : Int)
  | s (x : ByteArray)
  | sl (A : Ann) (es : List (List T))
  | raw (v : Value)
instance : Inhabited T := ⟨.b false⟩
inductive DV where
  | c (t : T)
  | g (cs : List T)
inductive TV where
  | unk
  | d (t : T)
  | nl
  | agg (cs : List TV)
  | tup (vs : List TV)
  | ptr (k off : Nat)
  | own (k : Nat)
  | ap (k i f : Nat)
  | rp (cs : List T)
  | clo (f : FuncId) (cap : List TV)
  | fn (g : List DV → Option DV)
instance : Inhabited TV := ⟨.unk⟩
abbrev Tok := List Nat
structure Stable where
  c : Nat → Nat → Prop
  t : Tok → Nat → Prop
instance : CoeFun Stable (fun _ => Nat → Nat → Prop) := ⟨Stable.c⟩
inductive Rep (w : World) (S : Stable) : T → Value → Prop where
  | b (x : Bool) : Rep w S (.b x) (.bool x)
  | i (k : IntKind) (n : Int) : Rep w S (.i k n) (.int k n)
  | s (x : ByteArray) : Rep w S (.s x) (.string x)
  | raw (v : Value) (h : v.cells = #[v] ∧ v.oneCell' = true) : Rep w S (.raw v) v
  | nil (A : Ann) (a : Option Addr) (cap : Nat) : Rep w S (.sl A []) (.slice a 0 cap)
  | sl (A : Ann) (es : List (List T)) (B off m cap : Nat) (vs : Nat → Nat → Value)
      (hb : A.has B) (ht : ∀ q, A = .tok q → S.t q B ∧ (q ≠ [] → off = 0)) (h0 : 0 < m) (hm : ∀ e ∈ es, e.length = m) (hcap : es.length ≤ cap)
      (hs : ∀ i j (hi : i < es.length) (_ : j < es[i].length), S B (off + i * m + j))
      (hc : ∀ i j (hi : i < es.length) (_ : j < es[i].length), w.cell? ⟨B, off + i * m + j, none⟩ = some (vs i j))
      (hr : ∀ i j (hi : i < es.length) (hj : j < es[i].length), Rep w S (es[i][j]) (vs i j)) :
      Rep w S (.sl A es) (.slice (some ⟨B, off, none⟩) es.length cap)
theorem Rep.mono {w w' : World} {S S' : Stable} (hS : ∀ b o, S b o → S' b o) (hT : ∀ q b, S.t q b → S'.t q b)
    (hw : ∀ b o, S b o → w'.cell? ⟨b, o, none⟩ = w.cell? ⟨b, o, none⟩) {t : T} {v : Value} (h : Rep w S t v) : Rep w' S' t v := by
  induction h with
  | b x => exact .b x
  | i k n => exact .i k n
  | s x => exact .s x
  | raw v h => exact .raw v h
  | nil A a cap => exact .nil A a cap
  | sl A es B off m cap vs hb ht h0 hm hcap hs hc hr ih =>
    exact .sl A es B off m cap vs hb (fun q e => ⟨hT q B (ht q e).1, (ht q e).2⟩) h0 hm hcap (fun i j hi hj => hS _ _ (hs i j hi hj))
      (fun i j hi hj => by rw [hw _ _ (hs i j hi hj)]; exact hc i j hi hj) (fun i j hi hj => ih i j hi hj)
inductive TLe : T → T → Prop where
  | refl (t : T) : TLe t t
  | sl {A A' : Ann} {es es' : List (List T)} (hA : ∀ x, A.has x → A'.has x) (hT : ∀ q, A' = .tok q → A = .tok q) (hl : es.length = es'.length)
      (hl2 : ∀ i (hi : i < es.length) (hi' : i < es'.length), es[i].length = es'[i].length)
      (h : ∀ i j (hi : i < es.length) (hi' : i < es'.length) (hj : j < es[i].length) (hj' : j < es'[i].length), TLe es[i][j] es'[i][j]) : TLe (.sl A es) (.sl A' es')
theorem Rep.weaken {w : World} {S : Stable} {t t' : T} (hl : TLe t t') : ∀ {v : Value}, Rep w S t v → Rep w S t' v := by
  induction hl with
  | refl t => exact fun h => h
  | @sl A A' es es' hA hT hl hl2 h ih =>
    intro v hr
    cases hr with
    | nil _ a cap =>
      have : es' = [] := List.eq_nil_of_length_eq_zero (by simpa using hl.symm)
      subst this
      exact .nil _ _ _
    | sl _ _ B off m cap vs hb ht h0 hm hcap hs hc hr =>
      rw [hl]
      have at' : ∀ i j (hi : i < es'.length) (hj : j < es'[i].length), ∃ (hi' : i < es.length), j < es[i].length :=
        fun i j hi hj => ⟨by omega, by rw [hl2 i (by omega) hi]; exact hj⟩
      refine .sl _ _ B off m cap vs (hA _ hb) (fun q e => ht q (hT q e)) h0 ?_ (by omega) ?_ ?_ ?_
      · intro e he
        obtain ⟨i, hi, rfl⟩ := List.mem_iff_getElem.1 he
        rw [← hl2 i (by omega) hi]
        exact hm _ (List.getElem_mem _)
      · exact fun i j hi hj => let ⟨h1, h2⟩ := at' i j hi hj; hs i j h1 h2
      · exact fun i j hi hj => let ⟨h1, h2⟩ := at' i j hi hj; hc i j h1 h2
      · exact fun i j hi hj => let ⟨h1, h2⟩ := at' i j hi hj; ih i j h1 hi h2 hj (hr i j h1 h2)
mutual
def T.ann (A : Ann) : T → T
  | .b x => .b x
  | .i k n => .i k n
  | .s x => .s x
  | .raw v => .raw v
  | .sl _ es => .sl A (annEs A es)
def annEs (A : Ann) : List (List T) → List (List T)
  | [] => []
  | e :: es => annCs A e :: annEs A es
def annCs (A : Ann) : List T → List T
  | [] => []
  | t :: ts => t.ann A :: annCs A ts
end
abbrev T.erase (t : T) : T := t.ann .any
theorem annCs_eq (A : Ann) (l : List T) : annCs A l = l.map (T.ann A) := by
  induction l with
  | nil => rfl
  | cons a l ih => simp [annCs, ih]
theorem annEs_eq (A : Ann) (l : List (List T)) : annEs A l = l.map (·.map (T.ann A)) := by
  induction l with
  | nil => rfl
  | cons a l ih => simp [annEs, ih, annCs_eq]
inductive Within (A : Nat → Prop) : T → Prop where
  | b (x : Bool) : Within A (.b x)
  | i (k : IntKind) (n : Int) : Within A (.i k n)
  | s (x : ByteArray) : Within A (.s x)
  | raw (v : Value) : Within A (.raw v)
  | sl {B : Ann} {es : List (List T)} (hB : es ≠ [] → ∀ x, B.has x → A x) (h : ∀ e ∈ es, ∀ t ∈ e, Within A t) : Within A (.sl B es)
theorem Rep.ann {w : World} {S : Stable} {t : T} {v : Value} (h : Rep w S t v) {A : Ann} (hn : ∀ q, A ≠ .tok q) (hA : Within A.has t) : Rep w S (t.ann A) v := by
  induction h with
  | b x => exact .b x
  | i k n => exact .i k n
  | s x => exact .s x
  | raw v h => exact .raw v h
  | nil A a cap => exact .nil _ a cap
  | sl B es b off m cap vs hb ht h0 hm hcap hs hc hr ih =>
    have e1 : T.ann A (.sl B es) = .sl A (es.map (·.map (T.ann A))) := by simp [T.ann, annEs_eq]
    rw [e1]
    have e2 : es.length = (es.map (·.map (T.ann A))).length := by simp
    cases hA with
    | sl hB hw =>
      by_cases hn' : es = []
      · subst hn'; exact .nil _ _ _
      rw [e2]
      refine .sl A _ b off m cap vs (hB hn' _ hb) (fun q e => absurd e (hn q)) h0 ?_ (by simpa using hcap) ?_ ?_ ?_
      · intro e he
        obtain ⟨e', he', rfl⟩ := List.mem_map.1 he
        simpa using hm e' he'
      · intro i j hi hj
        exact hs i j (by simpa using hi) (by simpa using hj)
      · intro i j hi hj
        exact hc i j (by simpa using hi) (by simpa using hj)
      · intro i j hi hj
        have := ih i j (by simpa using hi) (by simpa using hj) (hw _ (List.getElem_mem _) _ (List.getElem_mem _))
        simpa using this
theorem within_any : ∀ (t : T), Within (fun _ => True) t := by
  intro t
  have key : ∀ n : Nat, (∀ t : T, SizeOf.sizeOf t < n → Within (fun _ => True) t) := by
    intro n
    induction n with
    | zero => exact fun t h => absurd h (Nat.not_lt_zero _)
    | succ n ih =>
      intro t h
      cases t with
      | b x => exact .b x
      | i k n => exact .i k n
      | s x => exact .s x
      | raw v => exact .raw v
      | sl A es =>
        refine .sl (fun _ _ _ => trivial) fun e he t ht => ih t ?_
        have h1 := List.sizeOf_lt_of_mem he
        have h2 := List.sizeOf_lt_of_mem ht
        simp at h
        omega
  exact key _ t (Nat.lt_succ_self _)
theorem Rep.erase {w : World} {S : Stable} {t : T} {v : Value} (h : Rep w S t v) : Rep w S t.erase v :=
  h.ann (A := .any) (by simp) (within_any t)
theorem Rep.bound {w : World} {S : Stable} {n : Nat} (hS : ∀ b x, S b x → b < n) {t : T} {v : Value} (h : Rep w S t v) : Rep w S (t.ann (.sat (· < n))) v := by
  induction h with
  | b x => exact .b x
  | i k n => exact .i k n
  | s x => exact .s x
  | raw v h => exact .raw v h
  | nil A a cap => exact .nil _ a cap
  | sl B es b off m cap vs hb ht h0 hm hcap hs hc hr ih =>
    have e1 : T.ann (.sat (· < n)) (.sl B es) = .sl (.sat (· < n)) (es.map (·.map (T.ann (.sat (· < n))))) := by simp [T.ann, annEs_eq]
    rw [e1]
    have e2 : es.length = (es.map (·.map (T.ann (.sat (· < n))))).length := by simp
    by_cases hn : es = []
    · subst hn; exact .nil _ _ _
    · have hp : 0 < es.length := by rcases es with _ | ⟨e, es⟩; exact absurd rfl hn; exact Nat.succ_pos _
      have he : 0 < es[0].length := by rw [hm _ (List.getElem_mem _)]; exact h0
      have hb2 : b < n := hS _ _ (hs 0 0 hp he)
      rw [e2]
      refine .sl _ _ b off m cap vs hb2 (by simp) h0 ?_ (by simpa using hcap) ?_ ?_ ?_
      · intro e he
        obtain ⟨e', he', rfl⟩ := List.mem_map.1 he
        simpa using hm e' he'
      · intro i j hi hj
        exact hs i j (by simpa using hi) (by simpa using hj)
      · intro i j hi hj
        exact hc i j (by simpa using hi) (by simpa using hj)
      · intro i j hi hj
        have := ih i j (by simpa using hi) (by simpa using hj)
        simpa using this
end Go.Av
end
section
namespace Go.Av
open Go.RowKit (Below)
structure Ext (w : World) (S : Stable) (w' : World) (S' : Stable) : Prop where
  sub : ∀ b o, S b o → S' b o
  new : ∀ b o, S' b o → S b o ∨ w.heap.size ≤ b
  bnd : ∀ b o, S' b o → b < w'.heap.size
  below : Below w.heap.size w w'
  tok : ∀ q b, S'.t q b ↔ S.t q b
structure Keeps (w : World) (S : Stable) (w' : World) (S' : Stable) : Prop where
  sub : ∀ b o, S b o → S' b o
  cell : ∀ b o, S b o → w'.cell? ⟨b, o, none⟩ = w.cell? ⟨b, o, none⟩
  tok : ∀ q b, S.t q b → S'.t q b
theorem Keeps.refl (w : World) (S : Stable) : Keeps w S w S := ⟨fun _ _ h => h, fun _ _ _ => rfl, fun _ _ h => h⟩
theorem Keeps.trans {w1 w2 w3 : World} {S1 S2 S3 : Stable} (h : Keeps w1 S1 w2 S2) (k : Keeps w2 S2 w3 S3) : Keeps w1 S1 w3 S3 :=
  ⟨fun b o hb => k.sub b o (h.sub b o hb), fun b o hb => (k.cell b o (h.sub b o hb)).trans (h.cell b o hb), fun q b hq => k.tok q b (h.tok q b hq)⟩
theorem Ext.keeps {w w' : World} {S S' : Stable} (h : Ext w S w' S') (hb : ∀ b o, S b o → b < w.heap.size) : Keeps w S w' S' :=
  ⟨h.sub, fun b o hs => h.below.cell (p := ⟨b, o, none⟩) (hb b o hs), fun q b hq => (h.tok q b).2 hq⟩
theorem Rep.keeps {w w' : World} {S S' : Stable} (hk : Keeps w S w' S') {t : T} {v : Value} (h : Rep w S t v) : Rep w' S' t v :=
  h.mono hk.sub hk.tok hk.cell
class Known where
  k : Nat → Nat → Value → Prop
def KOk [Known] (w : World) (S : Stable) : Prop := ∀ b o v, Known.k b o v → S b o ∧ w.cell? ⟨b, o, none⟩ = some v
theorem KOk.keeps [Known] {w w' : World} {S S' : Stable} (h : KOk w S) (hk : Keeps w S w' S') : KOk w' S' := fun b o v hv =>
  let ⟨h1, h2⟩ := h b o v hv
  ⟨hk.sub b o h1, (hk.cell b o h1).trans h2⟩
inductive RDV (w : World) (S : Stable) : DV → Value → Prop where
  | c {t : T} {v : Value} (h : Rep w S t v) : RDV w S (.c t) v
  | g {cs : List T} {vs : Array Value} (hl : cs.length = vs.size) (h : ∀ i (hi : i < cs.length) (hj : i < vs.size), Rep w S cs[i] vs[i]) : RDV w S (.g cs) (.agg vs)
theorem RDV.keeps {w w' : World} {S S' : Stable} (hk : Keeps w S w' S') {t : DV} {v : Value} (h : RDV w S t v) : RDV w' S' t v := by
  cases h with
  | c h => exact .c (h.keeps hk)
  | g hl h => exact .g hl fun i hi hj => (h i hi hj).keeps hk
def Plainly (P : Program) (f : FuncId) : Prop := ∃ fn, P.funcs[f]? = some fn ∧ fn.body.isNone = false ∧ (fn.name == "runtime.NumGoroutine") = false
def FnOk [Known] (P : Program) (w : World) (S : Stable) (g : List DV → Option DV) (v : Value) : Prop :=
  ∃ f cap, v = .func (.func f) #[] cap ∧ Plainly P f ∧
    ∀ (w' : World) (S' : Stable), Keeps w S w' S' → KOk w' S' → (∀ b o, S' b o → b < w'.heap.size) →
      ∀ (args : List DV) (res : DV) (vs : Array Value), g args = some res → args.length = vs.size →
        (∀ i (hi : i < args.length) (hj : i < vs.size), RDV w' S' args[i] vs[i]) →
        Calls P f (vs ++ cap) w' fun e w'' => ∃ r S'', e = .returned r ∧ RDV w'' S'' res r ∧ Ext w' S' w'' S''
theorem FnOk.keeps [Known] {P : Program} {w w' : World} {S S' : Stable} (hk : Keeps w S w' S') {g : List DV → Option DV} {v : Value} (h : FnOk P w S g v) : FnOk P w' S' g v := by
  obtain ⟨f, cap, hv, hp, h⟩ := h
  exact ⟨f, cap, hv, hp, fun w2 S2 hk2 => h w2 S2 (hk.trans hk2)⟩
structure Pl where
  live : Bool
  blk : Nat
  len : Nat
  cap : Nat
  m : Nat
  deriving Inhabited
def foot (p : Pl) (x : Nat) : Prop := p.live = true ∧ x = p.blk
abbrev Places := Nat → Pl
inductive RV [Known] (P : Program) (w : World) (S : Stable) (β : Places) : TV → Value → Prop where
  | unk (v : Value) : RV P w S β .unk v
  | d {t : T} {v : Value} (h : Rep w S t v) : RV P w S β (.d t) v
  | nl (a : Option Addr) : RV P w S β .nl (.slice a 0 0)
  | agg {cs : List TV} {vs : Array Value} (hl : cs.length = vs.size) (h : ∀ i (hi : i < cs.length) (hj : i < vs.size), RV P w S β cs[i] vs[i]) :
      RV P w S β (.agg cs) (.agg vs)
  | tup {cs : List TV} {vs : Array Value} (hl : cs.length = vs.size) (h : ∀ i (hi : i < cs.length) (hj : i < vs.size), RV P w S β cs[i] vs[i]) :
      RV P w S β (.tup cs) (.tuple vs)
  | ptr (k off : Nat) : RV P w S β (.ptr k off) (.pointer (some ⟨(β k).blk, off, none⟩))
  | own (k : Nat) (a : Option Addr) (ha : (β k).live = true → a = some ⟨(β k).blk, 0, none⟩) : RV P w S β (.own k) (.slice a (β k).len (β k).cap)
  | ap (k i f : Nat) : RV P w S β (.ap k i f) (.pointer (some ⟨(β k).blk, i * (β k).m + f, none⟩))
  | rp {cs : List T} {B off : Nat} {vs : Nat → Value} (hs : ∀ j, j < cs.length → S B (off + j))
      (hc : ∀ j, j < cs.length → w.cell? ⟨B, off + j, none⟩ = some (vs j)) (hr : ∀ j (hj : j < cs.length), Rep w S cs[j] (vs j)) :
      RV P w S β (.rp cs) (.pointer (some ⟨B, off, none⟩))
  | clo {f : FuncId} {cap : List TV} {vs : Array Value} (hl : cap.length = vs.size) (h : ∀ i (hi : i < cap.length) (hj : i < vs.size), RV P w S β cap[i] vs[i]) :
      RV P w S β (.clo f cap) (.func (.func f) #[] vs)
  | fn {g : List DV → Option DV} {v : Value} (h : FnOk P w S g v) : RV P w S β (.fn g) v
mutual
def TV.ok (p : Nat → Prop) : TV → Prop
  | .ptr k _ => p k
  | .own k => p k
  | .ap k _ _ => p k
  | .agg cs => okL p cs
  | .tup cs => okL p cs
  | .clo _ cap => okL p cap
  | .unk => True
  | .d _ => True
  | .nl => True
  | .rp _ => True
  | .fn _ => True
def okL (p : Nat → Prop) : List TV → Prop
  | [] => True
  | x :: xs => x.ok p ∧ okL p xs
end
theorem okL_get {p : Nat → Prop} : ∀ {l : List TV}, okL p l → ∀ i (hi : i < l.length), (l[i]).ok p
  | [], _, i, hi => by simp at hi
  | x :: xs, h, 0, _ => h.1
  | x :: xs, h, i + 1, hi => by simpa using okL_get h.2 i (by simpa using hi)
theorem okL_iff {p : Nat → Prop} {l : List TV} : okL p l ↔ ∀ x ∈ l, x.ok p := by
  induction l with
  | nil => simp [okL]
  | cons a l ih => simp [okL, ih]
theorem RV.keeps [Known] {P : Program} {w w' : World} {S S' : Stable} {β β' : Places} (hk : Keeps w S w' S') {tv : TV} {v : Value} (h : RV P w S β tv v) :
    tv.ok (fun k => β' k = β k) → RV P w' S' β' tv v := by
  induction h with
  | unk v => exact fun _ => .unk v
  | d h => exact fun _ => .d (h.keeps hk)
  | nl a => exact fun _ => .nl a
  | agg hl h ih => exact fun ho => .agg hl fun i hi hj => ih i hi hj (okL_get ho i hi)
  | tup hl h ih => exact fun ho => .tup hl fun i hi hj => ih i hi hj (okL_get ho i hi)
  | ptr k off => intro ho; have e : β' k = β k := ho; rw [← e]; exact .ptr k off
  | own k a ha => intro ho; have e : β' k = β k := ho; rw [← e] at ha ⊢; exact .own k a ha
  | ap k i f => intro ho; have e : β' k = β k := ho; rw [← e]; exact .ap k i f
  | rp hs hc hr => exact fun _ => .rp (fun j hj => hk.sub _ _ (hs j hj)) (fun j hj => by rw [hk.cell _ _ (hs j hj)]; exact hc j hj) (fun j hj => (hr j hj).keeps hk)
  | clo hl h ih => exact fun ho => .clo hl fun i hi hj => ih i hi hj (okL_get ho i hi)
  | fn h => exact fun _ => .fn (h.keeps hk)
inductive Obj where
  | box (cs : List TV) (ty : Option TypeId := none)
  | arr (A : Ann) (m : Nat) (es : List (List T))
  | fz (A : Ann) (m : Nat) (es : List (List T))
instance : Inhabited Obj := ⟨.box []⟩
def Obj.okO (p : Nat → Prop) : Obj → Prop
  | .box cs _ => okL p cs
  | _ => True
def Obj.writable : Obj → Bool
  | .fz .. => false
  | _ => true
structure ArrOk (w : World) (S : Stable) (vs : Array Value) (m : Nat) (es : List (List T)) : Prop where
  hm : ∀ e ∈ es, e.length = m
  cell : ∀ i j (hi : i < es.length) (hj : j < es[i].length), ∃ v, vs[i * m + j]? = some v ∧ Rep w S es[i][j] v
def FrOk (A : Ann) (fr : Nat × Nat) (n : Nat) : Prop := (fr.1 = fr.2 ∨ n ≤ fr.1) ∧ (∀ t, A.tag = some t → fr = (0, 0))
theorem frOk0 {A : Ann} {n : Nat} : FrOk A (0, 0) n := ⟨.inl rfl, fun _ _ => rfl⟩
inductive OV [Known] (P : Program) (w : World) (S : Stable) (β : Places) (k : Nat) : Obj → Prop where
  | box {cs : List TV} {vs : Array Value} {e : TypeId} (hv : (β k).live = true) (hb : w.heap[(β k).blk]? = some (.cells vs e (0, 0))) (hl : cs.length = vs.size)
      (h : ∀ i (hi : i < cs.length) (hj : i < vs.size), RV P w S β cs[i] vs[i]) {ty : Option TypeId} (ht : ∀ t, ty = some t → e = t) : OV P w S β k (.box cs ty)
  | arr {A : Ann} {m : Nat} {es : List (List T)} {vs : Array Value} {e : TypeId} {fr : Nat × Nat} (hv : (β k).live = true) (hb : w.heap[(β k).blk]? = some (.cells vs e fr)) (hA : A.has (β k).blk ∧ ∀ q, A ≠ .tok q)
      (hm : (β k).m = m) (h0 : 0 < m) (hlen : (β k).len = es.length) (hcap : es.length ≤ (β k).cap) (hmax : (β k).cap ≤ maxLen) (hsz : vs.size = (β k).cap * m) (h : ArrOk w S vs m es) (ht : ∀ t, A.tag = some t → e = t) (hfr : FrOk A fr vs.size := by first | assumption | exact frOk0) :
      OV P w S β k (.arr A m es)
  | arrN {A : Ann} {m : Nat} (hv : (β k).live = false) (hm : (β k).m = m) (h0 : 0 < m) (hlen : (β k).len = 0) (hcap : (β k).cap = 0) : OV P w S β k (.arr A m [])
  | fz {A : Ann} {m : Nat} {es : List (List T)} {vs : Array Value} {e : TypeId} {fr : Nat × Nat} (hv : (β k).live = true) (hb : w.heap[(β k).blk]? = some (.cells vs e fr)) (hA : A.has (β k).blk)
      (hm : (β k).m = m) (h0 : 0 < m) (hlen : (β k).len = es.length) (hcap : es.length ≤ (β k).cap) (h : ArrOk w S vs m es)
      (hs : ∀ i j (hi : i < es.length) (_ : j < es[i].length), S (β k).blk (i * m + j)) (hT : ∀ q, A = .tok q → S.t q (β k).blk) :
      OV P w S β k (.fz A m es)
  | fzN {A : Ann} {m : Nat} (hv : (β k).live = false) (hlen : (β k).len = 0) : OV P w S β k (.fz A m [])
end Go.Av
end
section
namespace Go.Av
def lk {α : Type} (k : Nat) : List (Nat × α) → Option α
  | [] => none
  | (j, x) :: l => bif k == j then some x else lk k l
theorem lk_nil {α : Type} (k : Nat) : lk k ([] : List (Nat × α)) = none := rfl
theorem lk_cons {α : Type} (k j : Nat) (x : α) (l : List (Nat × α)) : lk k ((j, x) :: l) = bif k == j then some x else lk k l := rfl
def ob {α β : Type} (x : Option α) (f : α → Option β) : Option β := match x with
  | some a => f a
  | none => none
@[congr] theorem ob_congr {α β : Type} {x y : Option α} {f : α → Option β} (h : x = y) : ob x f = ob y f := by rw [h]
@[push_cast] theorem ob_some {α β : Type} (a : α) (f : α → Option β) : ob (some a) f = f a := rfl
@[push_cast] theorem ob_none {α β : Type} (f : α → Option β) : ob none f = none := rfl
def chk (c : Bool) : Option Unit := match c with
  | true => some ()
  | false => none
@[push_cast] theorem chk_true : chk true = some () := rfl
@[push_cast] theorem chk_false : chk false = none := rfl
theorem ob_eq_some {α β : Type} {x : Option α} {f : α → Option β} {b : β} (h : ob x f = some b) : ∃ a, x = some a ∧ f a = some b := by
  cases x with
  | none => cases h
  | some a => exact ⟨a, rfl, h⟩
theorem chk_eq_some {c : Bool} {u : Unit} (h : chk c = some u) : c = true := by cases c <;> first | rfl | cases h
abbrev UH := Nat → Option (Array Value × TypeId)
def noU : UH := fun _ => none
structure St where
  t : List (Nat × TV)
  o : List (Nat × Obj)
  ks : List Nat
  n : Nat
  sz : Nat
  u : UH
  g : Option (Nat × Bool) := none
def bump : Option (Nat × Bool) → Option (Nat × Bool)
  | none => none
  | some (n, b) => some (n + 1, b)
def gfl : Option (Nat × Bool) → Bool
  | none => false
  | some (_, a) => a
def valTV : Value → TV
  | .int k n => .d (.i k n)
  | .bool b => .d (.b b)
  | .string s => .d (.s s)
  | .slice none 0 0 => .nl
  | .pointer none => .d (.raw (.pointer none))
  | _ => .unk
def tySize (P : Program) (t : TypeId) : Nat := ((P.info? t).map (·.size)).getD 0
def tyBytes (P : Program) (t : TypeId) : Nat := ((P.info? t).map (·.bytes)).getD 0
def tyZero (P : Program) (t : TypeId) : Option (List TV) := ((P.info? t).bind (·.zero)).map fun z => z.cells.toList.map valTV
def tyAgg (P : Program) (t : TypeId) : Option Bool := (P.underlying t).map fun
  | .struct _ => true
  | .array _ _ => true
  | _ => false
def tyElem (P : Program) (t : TypeId) : Option TypeId := match P.underlying t with
  | some (.slice e) => some e
  | _ => none
def tyStr (P : Program) (t : TypeId) : Bool := match P.underlying t with
  | some .string => true
  | _ => false
def tyInt (P : Program) (t : TypeId) : Option IntKind := match P.underlying t with
  | some (.int k) => some k
  | _ => none
def tyOff (P : Program) (t : TypeId) (f : Nat) : Option Nat := match P.underlying t with
  | some (.struct fs) => match fs[f]? with
    | some x => if tySize P x.type = 0 then none else some x.offset
    | none => none
  | _ => none
def tyPtr (P : Program) (t : TypeId) : Option TypeId := match P.underlying t with
  | some (.pointer e) => ob (P.info? e) fun _ => some e
  | _ => none
def tyUns (P : Program) (t : TypeId) : Bool := match P.underlying t with
  | some .unsafePointer => true
  | _ => false
def tyTag (P : Program) (e : TypeId) : Option TypeId := match P.underlying e with
  | some (.struct fs) => match fs[0]? with
    | some f => match P.underlying f.type with
      | some (.pointer e') => if e' = e then some e else none
      | _ => none
    | none => none
  | _ => none
def evc (st : St) : Operand → TV
  | .tmp t => (lk t st.t).getD .unk
  | .const v => valTV v
  | .global _ => .unk
  | .func f => .clo f []
abbrev St.ev (st : St) : Operand → TV := evc st
def cellsOf : TV → Option (List TV)
  | .agg cs => some cs
  | .unk => none
  | .tup _ => none
  | .d t => some [.d t]
  | .nl => some [.nl]
  | .ptr k off => some [.ptr k off]
  | .own k => some [.own k]
  | .ap k i f => some [.ap k i f]
  | .rp cs => some [.rp cs]
  | .clo f cap => some [.clo f cap]
  | .fn g => some [.fn g]
def kOf (d : Nat) : Nat := d + 100
def takeTV : Bool → Nat → List TV → Option TV
  | true, n, cs => ob (chk (decide (0 < n) && decide (n ≤ cs.length))) fun _ => some (.agg (cs.take n))
  | false, _, cs => cs[0]?
def takeT : Bool → Nat → List T → Option TV
  | true, n, cs => ob (chk (decide (0 < n) && decide (n ≤ cs.length))) fun _ => some (.agg ((cs.take n).map .d))
  | false, _, cs => (cs[0]?).map .d
def boxCells : Obj → Option (List TV)
  | .box cs _ => some cs
  | .arr _ _ _ => none
  | .fz _ _ _ => none
def arrEs : Obj → Option (Nat × List (List T))
  | .box _ _ => none
  | .arr _ m es => some (m, es)
  | .fz _ m es => some (m, es)
def loadAt (ag : Bool) (sz : Nat) (st : St) : TV → Option TV
  | .ptr k off => ob (lk k st.o) fun ob' => ob (boxCells ob') fun cs => takeTV ag sz (cs.drop off)
  | .ap k i f => ob (lk k st.o) fun ob' => ob (arrEs ob') fun x => ob (x.2[i]?) fun e => takeT ag sz (e.drop f)
  | .rp cs => takeT ag sz cs
  | .unk => none
  | .d _ => none
  | .nl => none
  | .agg _ => none
  | .tup _ => none
  | .own _ => none
  | .clo _ _ => none
  | .fn _ => none
def fieldAt (o : Nat) : TV → Option TV
  | .ptr k off => some (.ptr k (off + o))
  | .ap k i g => some (.ap k i (g + o))
  | .rp cs => some (.rp (cs.drop o))
  | .unk => none
  | .d _ => none
  | .nl => none
  | .agg _ => none
  | .tup _ => none
  | .own _ => none
  | .clo _ _ => none
  | .fn _ => none
def intOfTV : TV → Option Int
  | .d (.i _ n) => some n
  | _ => none
def boolOfTV : TV → Option Bool
  | .d (.b x) => some x
  | _ => none
def indexAt (el : Nat) (st : St) (n : Int) : TV → Option TV
  | .d (.sl _ es) => ob (es[n.toNat]?) fun e => ob (chk (decide (0 ≤ n) && e.length == el)) fun _ => some (.rp e)
  | .own k => ob (lk k st.o) fun ob' => ob (arrEs ob') fun x =>
      ob (chk (decide (0 ≤ n) && decide (n.toNat < x.2.length) && x.1 == el)) fun _ => some (.ap k n.toNat 0)
  | _ => none
def lenOf (P : Program) (t : TypeId) (st : St) : TV → Option Nat
  | .d (.s x) => ob (chk (tyStr P t)) fun _ => some x.size
  | .d (.sl _ es) => ob (tyElem P t) fun _ => some es.length
  | .nl => ob (tyElem P t) fun _ => some 0
  | .own k => ob (tyElem P t) fun _ => ob (lk k st.o) fun ob' => ob (arrEs ob') fun x => some x.2.length
  | _ => none
def strIndex (n : Int) : TV → Option TV
  | .d (.s x) => ob (chk (decide (0 ≤ n))) fun _ => ob (x[n.toNat]?) fun b => some (.d (.i .u8 b.toNat))
  | _ => none
def setSeg {α : Type} (off : Nat) (new cs : List α) : List α := cs.take off ++ (new ++ cs.drop (off + new.length))
def fldsOf (P : Program) : List Field → Option (List (Nat × Nat))
  | [] => some []
  | f :: fs => ob (P.info? f.type) fun i => ob (fldsOf P fs) fun l => some ((f.offset, i.size) :: l)
def tyFlds (P : Program) (t : TypeId) : Option (List (Nat × Nat)) := match P.underlying t with
  | some (.struct fs) => fldsOf P fs.toList
  | _ => none
def fillTV (fl : List (Nat × Nat)) (st : St) : List (Nat × Operand) → List TV → Option (List TV)
  | [], cs => some cs
  | (f, x) :: ps, cs => ob (fl[f]?) fun os => ob (cellsOf (evc st x)) fun new =>
      ob (chk (new.length == os.2 && decide (os.1 + new.length ≤ cs.length))) fun _ => fillTV fl st ps (setSeg os.1 new cs)
def boundOf (st : St) (d : Nat) : Option Operand → Option Int
  | none => some d
  | some x => intOfTV (evc st x)
def unA : Ann → Ann
  | .any => .any
  | .blk b t => .blk b t
  | .sat A => .sat A
  | .u8 e => .u8 e
  | .nilA => .nilA
  | .tok _ => .any
theorem unA_has {A : Ann} {B : Nat} (h : A.has B) : (unA A).has B := by cases A <;> first | exact h | trivial
theorem unA_tok (A : Ann) (q : List Nat) : unA A ≠ .tok q := by cases A <;> exact Ann.noConfusion
def sliceAt (P : Program) (st : St) (t : TypeId) (lo hi : Option Operand) : TV → Option TV
  | .d (.s x) => ob (chk (tyStr P t)) fun _ => ob (boundOf st 0 lo) fun l => ob (boundOf st x.size hi) fun h =>
      ob (chk (decide (0 ≤ l ∧ l ≤ h ∧ h ≤ x.size))) fun _ => some (.d (.s (x.extract l.toNat h.toNat)))
  | .d (.sl b es) => ob (tyElem P t) fun el => ob (boundOf st 0 lo) fun l => ob (boundOf st es.length hi) fun h =>
      ob (chk (decide (0 ≤ l ∧ l ≤ h ∧ h ≤ es.length) && (decide (0 < tySize P el) && es.all fun e => e.length == tySize P el))) fun _ => some (.d (.sl (unA b) ((es.take h.toNat).drop l.toNat)))
  | _ => none
def bitsI (op : BinOp) (k : IntKind) (x y : Int) : Int := match op with
  | .and => k.wrap (BitVec.ofInt k.bits x &&& BitVec.ofInt k.bits y).toNat
  | .or => k.wrap (BitVec.ofInt k.bits x ||| BitVec.ofInt k.bits y).toNat
  | .xor => k.wrap (BitVec.ofInt k.bits x ^^^ BitVec.ofInt k.bits y).toNat
  | _ => k.wrap (BitVec.ofInt k.bits x &&& ~~~ BitVec.ofInt k.bits y).toNat
def intBin (k : IntKind) (x y : Int) : BinOp → Option T
  | .add => some (.i k (k.wrap (x + y)))
  | .sub => some (.i k (k.wrap (x - y)))
  | .mul => some (.i k (k.wrap (x * y)))
  | .quo => ob (chk (decide (y ≠ 0))) fun _ => some (.i k (k.wrap (x.tdiv y)))
  | .rem => ob (chk (decide (y ≠ 0))) fun _ => some (.i k (x.tmod y))
  | .and => some (.i k (bitsI .and k x y))
  | .or => some (.i k (bitsI .or k x y))
  | .xor => some (.i k (bitsI .xor k x y))
  | .andNot => some (.i k (bitsI .andNot k x y))
  | .eql => some (.b (x == y))
  | .neq => some (.b (x != y))
  | .lss => some (.b (decide (x < y)))
  | .leq => some (.b (decide (x ≤ y)))
  | .gtr => some (.b (decide (x > y)))
  | .geq => some (.b (decide (x ≥ y)))
  | _ => none
def strBin (x y : ByteArray) : BinOp → Option T
  | .eql => some (.b (x.toList == y.toList))
  | .neq => some (.b (!(x.toList == y.toList)))
  | .lss => some (.b (Op.bytesLess x.toList y.toList))
  | .leq => some (.b (Op.bytesLess x.toList y.toList || x.toList == y.toList))
  | .gtr => some (.b (!(Op.bytesLess x.toList y.toList || x.toList == y.toList)))
  | .geq => some (.b (!(Op.bytesLess x.toList y.toList)))
  | .add => ob (chk (decide (x.size + y.size ≤ 1099511627776))) fun _ => some (.s (x ++ y))
  | _ => none
def boolBin (a b : Bool) : BinOp → Option T
  | .eql => some (.b (a == b))
  | .neq => some (.b (!(a == b)))
  | _ => none
def tyBool (P : Program) (t : TypeId) : Bool := match P.underlying t with
  | some .bool => true
  | _ => false
inductive Kd where
  | b | i | s
def kdOf : TypeDesc → Option Kd
  | .bool => some .b
  | .int _ => some .i
  | .string => some .s
  | _ => none
def plainFields (P : Program) : Nat → List Field → Option (List Kd)
  | _, [] => some []
  | i, f :: fs => ob (chk (f.name != "_" && f.offset == i)) fun _ => ob (P.underlying f.type) fun d => ob (kdOf d) fun k => ob (plainFields P (i + 1) fs) fun ks => some (k :: ks)
def tyPlain (P : Program) (t : TypeId) : Option (List Kd) := match P.underlying t with
  | some (.struct fs) => ob (chk (!P.stoodInHeld t && !P.eqGuardType P.depth t)) fun _ => plainFields P 0 fs.toList
  | _ => none
def eqK : Kd → TV → TV → Option Bool
  | .b, .d (.b x), .d (.b y) => some (x == y)
  | .i, .d (.i k x), .d (.i j y) => ob (chk (decide (k = j))) fun _ => some (x == y)
  | .s, .d (.s x), .d (.s y) => some (x.toList == y.toList)
  | _, _, _ => none
def eqKs : List Kd → List TV → List TV → Option Bool
  | [], [], [] => some true
  | k :: ks, x :: xs, y :: ys => ob (eqK k x y) fun r => ob (eqKs ks xs ys) fun q => some (r && q)
  | _, _, _ => none
def shiftI (k : IntKind) (x y : Int) : BinOp → Option T
  | .shl => ob (chk (decide (0 ≤ y))) fun _ => some (.i k (k.wrap (x * 2 ^ (min y.toNat k.bits))))
  | .shr => ob (chk (decide (0 ≤ y))) fun _ => some (.i k (x.fdiv (2 ^ (min y.toNat k.bits))))
  | _ => none
def isShift : BinOp → Bool
  | .shl => true
  | .shr => true
  | _ => false
def eqPtr : TV → TV → Option Bool
  | .ptr k o, .ptr k' o' => ob (chk (k == k' && o == o')) fun _ => some true
  | .ptr _ _, .d (.raw (.pointer none)) => some false
  | .d (.raw (.pointer none)), .ptr _ _ => some false
  | .d (.raw (.pointer none)), .d (.raw (.pointer none)) => some true
  | _, _ => none
def binPtr (P : Program) (ty : TypeId) (op : BinOp) (x y : TV) : Option TV := ob (tyPtr P ty) fun _ => ob (eqPtr x y) fun r => (boolBin r true op).map .d
def binAt2 (P : Program) (ty : TypeId) (op : BinOp) : TV → TV → Option TV
  | .d (.i k a), .d (.i j b) => ob (chk (decide (k = j))) fun _ => (intBin k a b op).map .d
  | .d (.s a), .d (.s b) => (strBin a b op).map .d
  | .d (.b a), .d (.b b) => ob (chk (tyBool P ty)) fun _ => (boolBin a b op).map .d
  | .agg xs, .agg ys => ob (tyPlain P ty) fun ks => ob (eqKs ks xs ys) fun r => (boolBin r true op).map .d
  | .ptr k o, y => binPtr P ty op (.ptr k o) y
  | .d (.raw v), y => binPtr P ty op (.d (.raw v)) y
  | _, _ => none
def unAt : UnOp → TV → Option TV
  | .not, .d (.b b) => some (.d (.b (!b)))
  | .neg, .d (.i k n) => some (.d (.i k (k.wrap (0 - n))))
  | _, _ => none
def extractAt (i : Nat) : TV → Option TV
  | .tup vs => vs[i]?
  | _ => none
def shiftAt (op : BinOp) : TV → TV → Option TV
  | .d (.i k a), .d (.i _ b) => (shiftI k a b op).map .d
  | _, _ => none
def binAt (P : Program) (ty : TypeId) (op : BinOp) (x y : TV) : Option TV := bif isShift op then shiftAt op x y else binAt2 P ty op x y
inductive Eff where
  | val (x : TV)
  | box (cs : List TV) (ty : Option TypeId)
def sliceDataAt (st : St) : TV → Option TV
  | .own k => ob (lk k st.o) fun o => ob (arrEs o) fun x => ob (chk (decide (0 < x.2.length))) fun _ => some (.ap k 0 0)
  | _ => none
def toUns (P : Program) (st : St) (src dst : TypeId) (k off : Nat) : Bool := match tyPtr P src, lk k st.o with
  | some t, some (.box cs _) => decide (tySize P t ≠ 0) && (tyUns P dst && decide (off < cs.length))
  | _, _ => false
def fromUns (P : Program) (st : St) (src dst : TypeId) (k off : Nat) : Bool := match tyPtr P dst, lk k st.o with
  | some u, some (.box cs (some e)) => tyUns P src && liesAt P P.depth e (cs.length / P.cellsOf e) off u 1
  | _, _ => false
def convPtr (P : Program) (st : St) (src dst : TypeId) : TV → Option TV
  | .ptr k off => ob (chk (toUns P st src dst k off || fromUns P st src dst k off)) fun _ => some (.ptr k off)
  | _ => none
def isPtr : TV → Bool
  | .ptr _ _ => true
  | _ => false
def nilAt : TV → Option TV
  | .ptr k o => some (.ptr k o)
  | .ap k i f => some (.ap k i f)
  | .rp cs => some (.rp cs)
  | _ => none
def bleff (P : Program) (st : St) (args : Array Operand) (ts : Array TypeId) : Builtin → Option Eff
  | .len => ob (args[0]?) fun x => ob (ts[0]?) fun t => ob (lenOf P t st (evc st x)) fun n => some (.val (.d (.i .i64 n)))
  | .unsafeSliceData => ob (args[0]?) fun x => ob (chk (args.size == 1)) fun _ => (sliceDataAt st (evc st x)).map .val
  | _ => none
def convAt (k : IntKind) : TV → Option TV
  | .d (.i _ n) => some (.d (.i k (k.wrap n)))
  | _ => none
def leff (P : Program) (st : St) : Op → Option Eff
  | .move x => some (.val (evc st x))
  | .assign x => some (.val (evc st x))
  | .pick c a b => ob (boolOfTV (evc st c)) fun t => some (.val (bif t then evc st a else evc st b))
  | .alloc e => (tyZero P e).map fun cs => .box cs (tyTag P e)
  | .box _ x => (cellsOf (evc st x)).map fun cs => .box cs none
  | .load t a => ob (tyAgg P t) fun ag => (loadAt ag (tySize P t) st (evc st a)).map .val
  | .fieldAddr s x f => ob (tyOff P s f) fun o => (fieldAt o (evc st x)).map .val
  | .indexAddr t x i => ob (tyElem P t) fun el => ob (chk (decide (0 < tySize P el))) fun _ => ob (intOfTV (evc st i)) fun n => (indexAt (tySize P el) st n (evc st x)).map .val
  | .binOp op ty x y _ => (binAt P ty op (evc st x) (evc st y)).map .val
  | .unOp op _ x => (unAt op (evc st x)).map .val
  | .slice t x lo hi none => (sliceAt P st t lo hi (evc st x)).map .val
  | .index t x i => ob (chk (tyStr P t)) fun _ => ob (intOfTV (evc st i)) fun n => (strIndex n (evc st x)).map .val
  | .convert src dst x => match tyInt P dst with
    | some k => ob (tyInt P src) fun _ => (convAt k (evc st x)).map .val
    | none => (convPtr P st src dst (evc st x)).map .val
  | .nilCheck x => (nilAt (evc st x)).map .val
  | .build t parts => ob (tyFlds P t) fun fl => ob (tyZero P t) fun z => (fillTV fl st parts.toList z).map fun cs => .val (.agg cs)
  | .extract x i => (extractAt i (evc st x)).map .val
  | .makeFunc (.func f) first cap => ob (chk (first.size == 0)) fun _ => some (.val (.clo f (cap.toList.map (evc st))))
  | .call c => match c.callee with
    | .builtin b => bleff P st c.args c.argTypes b
    | _ => none
  | _ => none
def put (st : St) (x : TV) : Option Nat → Option St
  | some d => ob (chk (decide (d < st.sz))) fun _ => some { t := (d, x) :: st.t, o := st.o, ks := st.ks, n := st.n, sz := st.sz, u := st.u, g := st.g }
  | none => some st
def hasKey (k : Nat) : List Nat → Bool
  | [] => false
  | j :: l => bif k == j then true else hasKey k l
def effOn (st : St) (dst : Option Nat) : Eff → Option St
  | .val x => put st x dst
  | .box cs ty => ob dst fun d => ob (chk (decide (d < st.sz) && !hasKey (kOf d) st.ks)) fun _ =>
      some { t := (d, .ptr (kOf d) 0) :: st.t, o := (kOf d, .box cs ty) :: st.o, ks := kOf d :: st.ks, n := st.n, sz := st.sz, u := st.u, g := st.g }
def lop (P : Program) (st : St) (o : Oper) : Option St := ob (leff P st o.op) fun e => effOn st o.dst e
end Go.Av
end
section
set_option linter.unusedSectionVars false
namespace Go.Av
structure BelowX (B : Nat) (X : Nat → Prop) (w w' : World) : Prop where
  os : w'.os = w.os
  tape : w'.tape = w.tape
  output : w'.output = w.output
  size : w.heap.size ≤ w'.heap.size
  block : ∀ k, k < B → ¬ X k → w'.heap[k]? = w.heap[k]?
theorem BelowX.refl (B : Nat) (X : Nat → Prop) (w : World) : BelowX B X w w := ⟨rfl, rfl, rfl, Nat.le_refl _, fun _ _ _ => rfl⟩
theorem BelowX.trans {B : Nat} {X : Nat → Prop} {a b c : World} (h : BelowX B X a b) (k : BelowX B X b c) : BelowX B X a c :=
  ⟨k.os.trans h.os, k.tape.trans h.tape, k.output.trans h.output, Nat.le_trans h.size k.size, fun i hi hx => (k.block i hi hx).trans (h.block i hi hx)⟩
theorem BelowX.alloc {B : Nat} {X : Nat → Prop} {a w : World} (h : BelowX B X a w) (hB : B ≤ w.heap.size) (o : Go.Obj) : BelowX B X a (w.alloc o) :=
  h.trans ⟨rfl, rfl, rfl, by simp, fun k hk _ => Go.RowKit.Below.heap_alloc _ _ _ (by omega)⟩
structure TNew (n : Nat) (p : Tok → Prop) (w : World) (S : Stable) : Prop where
  new : ∀ q b, S.t q b → p q ∧ n ≤ b ∧ (∃ vs e fr, w.heap[b]? = some (.cells vs e fr) ∧ (fr.1 = fr.2 ∨ vs.size ≤ fr.1)) ∧ ∀ o, S b o
  i1 : ∀ q b b', S.t q b → S.t q b' → b = b'
  i2 : ∀ q q' b, S.t q b → S.t q' b → q = q'
def Stable.ne (S : Stable) : Stable := ⟨S.c, fun q b => q ≠ [] ∧ S.t q b⟩
def TOk (X : Nat → Prop) (w0 : World) (S0 : Stable) (w : World) (S : Stable) : Option (Nat × Bool) → Prop
  | none => ∀ q b, S.t q b ↔ S0.t q b
  | some (n, a) => ((∀ x, ¬ X x) ∧ ∀ q b, ¬ S0.t q b) ∧ (∀ b, S.t [] b → a = true ∧ (∃ o, S b o) ∧ ∀ q, S.t q b → q = []) ∧ TNew w0.heap.size (fun q => ∃ c r, q = c :: r ∧ c < n) w S.ne
theorem TOk.keep {X : Nat → Prop} {w0 w w' : World} {S0 S : Stable} {g : Option (Nat × Bool)} (h : TOk X w0 S0 w S g) (hw : ∀ b, S b 0 → w'.heap[b]? = w.heap[b]?) : TOk X w0 S0 w' S g := by
  cases g with
  | none => exact h
  | some n =>
    refine ⟨h.1, h.2.1, fun q b hq => ?_, h.2.2.i1, h.2.2.i2⟩
    obtain ⟨h1, h2, h3, h4⟩ := h.2.2.new q b hq
    exact ⟨h1, h2, by rw [hw b (h4 0)]; exact h3, h4⟩
theorem TOk.more {X : Nat → Prop} {w0 w : World} {S0 S S' : Stable} {g : Option (Nat × Bool)} (h : TOk X w0 S0 w S g) (hc : ∀ b o, S b o → S' b o) (ht : ∀ q b, S'.t q b ↔ S.t q b) : TOk X w0 S0 w S' g := by
  cases g with
  | none => exact fun q b => (ht q b).trans (h q b)
  | some n =>
    have ht' : ∀ q b, S'.ne.t q b → S.ne.t q b := fun q b h => ⟨h.1, (ht _ _).1 h.2⟩
    refine ⟨h.1, fun b hb => ?_, fun q b hq => ?_, fun q b b' h1 h2 => h.2.2.i1 q b b' (ht' _ _ h1) (ht' _ _ h2), fun q q' b h1 h2 => h.2.2.i2 q q' b (ht' _ _ h1) (ht' _ _ h2)⟩
    · obtain ⟨h1, ⟨o, h2⟩, h3⟩ := h.2.1 b ((ht _ _).1 hb)
      exact ⟨h1, ⟨o, hc _ _ h2⟩, fun q hq => h3 q ((ht _ _).1 hq)⟩
    · obtain ⟨h1, h2, h3, h4⟩ := h.2.2.new q b (ht' _ _ hq)
      exact ⟨h1, h2, h3, fun o => hc _ _ (h4 o)⟩
theorem TOk.bump {X : Nat → Prop} {w0 w : World} {S0 S : Stable} {g : Option (Nat × Bool)} (h : TOk X w0 S0 w S g) : TOk X w0 S0 w S (bump g) := by
  cases g with
  | none => exact h
  | some n =>
    refine ⟨h.1, h.2.1, fun q b hq => ?_, h.2.2.i1, h.2.2.i2⟩
    obtain ⟨⟨c, r, h1, h1'⟩, h2⟩ := h.2.2.new q b hq
    exact ⟨⟨c, r, h1, Nat.lt_succ_of_lt h1'⟩, h2⟩
structure Sim [Known] (P : Program) (X : Nat → Prop) (β0 : Places) (w0 : World) (S0 : Stable) (st : St) (a : Act) (w : World) (S : Stable) (β : Places) : Prop where
  kn : KOk w S
  dfr : a.defers = []
  size : a.tmps.size = st.sz
  tmps : ∀ i tv, lk i st.t = some tv → ∃ v, a.tmps[i]? = some v ∧ RV P w S β tv v ∧ tv.ok (· ∈ st.ks)
  objs : ∀ k ob, lk k st.o = some ob → OV P w S β k ob ∧ ob.okO (· ∈ st.ks) ∧ k ∈ st.ks
  own : ∀ k ob, lk k st.o = some ob → ∀ x, foot (β k) x → (k < 40 ∧ (ob.writable = true → X x)) ∨ X x ∨ w0.heap.size ≤ x
  inj : ∀ k k' ob ob', lk k st.o = some ob → lk k' st.o = some ob' → k ≠ k' → ∀ x, foot (β k) x → ¬ foot (β k') x
  sep : ∀ k ob, lk k st.o = some ob → ob.writable = true → ∀ x, foot (β k) x → ∀ z, ¬ S x z
  bnd : ∀ b x, S b x → b < w.heap.size
  sub : ∀ b x, S0 b x → S b x
  new : ∀ b x, S b x → S0 b x ∨ X b ∨ w0.heap.size ≤ b
  below : BelowX w0.heap.size X w0 w
  n : st.n ≤ w.heap.size
  fix : ∀ k, k < 40 → β k = β0 k
  gh : ∀ b o, st.u b = some o → w.heap[b]? = some (.cells o.1 o.2 (0, 0)) ∧ (∀ x, ¬ S b x) ∧ (∀ k ob, lk k st.o = some ob → ¬ foot (β k) b) ∧ (X b ∨ w0.heap.size ≤ b)
  tk : TOk X w0 S0 w S st.g
section
variable [Known] {P : Program} {X : Nat → Prop} {β0 : Places} {w0 w : World} {S0 S : Stable} {st st' : St} {a : Act} {β : Places}
theorem Sim.loc (h : Sim P X β0 w0 S0 st a w S β) {k : Nat} {ob : Obj} (hk : lk k st.o = some ob) (hw : ob.writable = true) {x : Nat} (hx : foot (β k) x) : X x ∨ w0.heap.size ≤ x := by
  rcases h.own k ob hk x hx with g | g | g
  · exact .inl (g.2 hw)
  · exact .inl g
  · exact .inr g
theorem valTV_sound (v : Value) : RV P w S β (valTV v) v := by
  unfold valTV
  split
  · exact .d (.i _ _)
  · exact .d (.b _)
  · exact .d (.s _)
  · exact .nl _
  · exact .d (.raw _ ⟨rfl, rfl⟩)
  · exact .unk _
theorem valTV_ok (v : Value) (p : Nat → Prop) : (valTV v).ok p := by
  unfold valTV
  split <;> trivial
theorem evc_sound (h : Sim P X β0 w0 S0 st a w S β) (x : Operand) : RV P w S β (evc st x) (a.eval x) ∧ (evc st x).ok (· ∈ st.ks) := by
  cases x with
  | tmp t =>
    simp only [evc, Act.eval]
    cases hl : lk t st.t with
    | none => exact ⟨.unk _, trivial⟩
    | some tv =>
      obtain ⟨v, hv, hr, ho⟩ := h.tmps t tv hl
      simp only [Option.getD_some]
      have : a.tmps.getD t undef = v := by
        rw [Array.getD_eq_getD_getElem?, hv]; rfl
      rw [this]
      exact ⟨hr, ho⟩
  | const v => exact ⟨valTV_sound v, valTV_ok v _⟩
  | global g => exact ⟨.unk _, trivial⟩
  | func f => exact ⟨.clo (vs := #[]) rfl (fun i hi _ => absurd hi (by simp)), trivial⟩
theorem intOfTV_sound {tv : TV} {v : Value} {n : Int} (h : RV P w S β tv v) (e : intOfTV tv = some n) : ∃ k, tv = .d (.i k n) ∧ v = .int k n := by
  unfold intOfTV at e
  split at e
  · cases e
    cases h with
    | d h => cases h; exact ⟨_, rfl, rfl⟩
  · cases e
theorem boolOfTV_sound {tv : TV} {v : Value} {n : Bool} (h : RV P w S β tv v) (e : boolOfTV tv = some n) : v = .bool n := by
  unfold boolOfTV at e
  split at e
  · cases e
    cases h with
    | d h => cases h; rfl
  · cases e
theorem RV.oneCell {tv : TV} {v : Value} (h : RV P w S β tv v) (h1 : tv ≠ .unk) (h2 : ∀ cs, tv ≠ .agg cs) (h3 : ∀ cs, tv ≠ .tup cs) : v.cells = #[v] ∧ v.oneCell' = true := by
  cases h with
  | unk v => exact absurd rfl h1
  | d h => cases h <;> first | exact ⟨rfl, rfl⟩ | assumption
  | nl a => exact ⟨rfl, rfl⟩
  | agg hl h => exact absurd rfl (h2 _)
  | tup hl h => exact absurd rfl (h3 _)
  | ptr k off => exact ⟨rfl, rfl⟩
  | own k => exact ⟨rfl, rfl⟩
  | ap k i f => exact ⟨rfl, rfl⟩
  | rp hs hc hr => exact ⟨rfl, rfl⟩
  | clo hl h => exact ⟨rfl, rfl⟩
  | fn h => obtain ⟨f, cap, rfl, _⟩ := h; exact ⟨rfl, rfl⟩
theorem cellsOf_sound {tv : TV} {v : Value} {cs : List TV} {p : Nat → Prop} (h : RV P w S β tv v) (ho : tv.ok p) (e : cellsOf tv = some cs) :
    cs.length = v.cells.size ∧ (∀ i (hi : i < cs.length) (hj : i < v.cells.size), RV P w S β cs[i] v.cells[i]) ∧ okL p cs := by
  have one : ∀ x : TV, x = tv → x ≠ .unk → (∀ cs, x ≠ .agg cs) → (∀ cs, x ≠ .tup cs) → cs = [x] →
      cs.length = v.cells.size ∧ (∀ i (hi : i < cs.length) (hj : i < v.cells.size), RV P w S β cs[i] v.cells[i]) ∧ okL p cs := by
    intro x hx h1 h2 h3 hcs
    subst hx
    subst hcs
    have e := (h.oneCell h1 h2 h3).1
    refine ⟨by rw [e]; rfl, ?_, ho, trivial⟩
    intro i hi hj
    have : i = 0 := by simpa using hi
    subst this
    have e2 : v.cells[0] = v := by simp [e]
    rw [e2]
    exact h
  cases tv with
  | unk => cases e
  | tup vs => cases e
  | agg cs' =>
    cases e
    cases h with
    | agg hl h => exact ⟨hl, h, ho⟩
  | d t => cases e; exact one _ rfl (by simp) (by simp) (by simp) rfl
  | nl => cases e; exact one _ rfl (by simp) (by simp) (by simp) rfl
  | ptr k off => cases e; exact one _ rfl (by simp) (by simp) (by simp) rfl
  | own k => cases e; exact one _ rfl (by simp) (by simp) (by simp) rfl
  | ap k i f => cases e; exact one _ rfl (by simp) (by simp) (by simp) rfl
  | rp cs' => cases e; exact one _ rfl (by simp) (by simp) (by simp) rfl
  | clo f cap => cases e; exact one _ rfl (by simp) (by simp) (by simp) rfl
  | fn g => cases e; exact one _ rfl (by simp) (by simp) (by simp) rfl
theorem Addr_add (B off n : Nat) : (⟨B, off, none⟩ : Addr).add n = ⟨B, off + n, none⟩ := by
  unfold Addr.add
  split
  · rename_i h; subst h; rfl
  · rfl
theorem run_loadCellsFrom {B off : Nat} {vs : Nat → Value} : ∀ (n i : Nat) (acc : Array Value), (∀ j, i ≤ j → j < i + n → w.cell? ⟨B, off + j, none⟩ = some (vs j)) →
    (loadCellsFrom ⟨B, off, none⟩ i n acc).run P w = .ok (acc ++ ((List.range' i n).map vs).toArray) w := by
  intro n
  induction n with
  | zero => intro i acc _; simp [loadCellsFrom]
  | succ n ih =>
    intro i acc h
    simp only [loadCellsFrom, Sem.run_bind, run_load, Addr_add]
    rw [h i (Nat.le_refl _) (by omega)]
    simp only [Result.andThen_ok]
    rw [ih (i + 1) (acc.push (vs i)) (fun j h1 h2 => h j (by omega) (by omega))]
    simp [List.range'_succ]
theorem run_loadVar_agg {t : TypeId} {B off : Nat} {vs : Nat → Value} (ha : tyAgg P t = some true) (hc : ∀ j, j < tySize P t → w.cell? ⟨B, off + j, none⟩ = some (vs j))
    (hi : (P.info? t).isSome) : (loadVar t ⟨B, off, none⟩).run P w = .ok (.agg ((List.range (tySize P t)).map vs).toArray) w := by
  unfold tyAgg at ha
  obtain ⟨i, hi⟩ := Option.isSome_iff_exists.1 hi
  have hs : tySize P t = i.size := by simp [tySize, hi]
  rw [hs] at hc ⊢
  have hl := run_loadCellsFrom (P := P) (w := w) (B := B) (off := off) (vs := vs) i.size 0 #[] (fun j _ h2 => hc j (by omega))
  have h2 : (loadCells ⟨B, off, none⟩ i.size).run P w = .ok ((List.range i.size).map vs).toArray w := by
    unfold loadCells; rw [hl]; simp [List.range_eq_range']
  unfold loadVar isAgg underlying sizeOf typeInfo
  cases hu : P.underlying t with
  | none => rw [hu] at ha; cases ha
  | some d =>
    rw [hu] at ha
    cases d <;> first | (cases ha; done) | skip
    all_goals simp [hu, hi, h2]
end
end Go.Av
end
section
set_option linter.unusedSectionVars false
namespace Go.Av
section
variable [Known] {P : Program} {X : Nat → Prop} {β0 : Places} {w0 w : World} {S0 S : Stable} {st st' : St} {a : Act} {β : Places}
theorem cell_of_block {b j : Nat} {vs : Array Value} {e : TypeId} {fr : Nat × Nat} (h : w.heap[b]? = some (.cells vs e fr)) : w.cell? ⟨b, j, none⟩ = vs[j]? := by
  simp [World.cell?, h]
theorem info_of_size {t : TypeId} (h : 0 < tySize P t) : ∃ i, P.info? t = some i ∧ tySize P t = i.size := by
  unfold tySize at h ⊢
  cases hi : P.info? t with
  | none => simp [hi] at h
  | some i => exact ⟨i, rfl, by simp⟩
theorem chk2 {c d : Bool} {u : Unit} (h : chk (c && d) = some u) : c = true ∧ d = true := by
  have := chk_eq_some h
  simpa using this
theorem run_loadVar_take {t : TypeId} {ag : Bool} {B off : Nat} {cs : List TV} {x : TV} {p : Nat → Prop} (ha : tyAgg P t = some ag)
    (hc : ∀ j (hj : j < cs.length), ∃ v, w.cell? ⟨B, off + j, none⟩ = some v ∧ RV P w S β cs[j] v) (ho : okL p cs)
    (he : takeTV ag (tySize P t) cs = some x) :
    ∃ v, (loadVar t ⟨B, off, none⟩).run P w = .ok v w ∧ RV P w S β x v ∧ x.ok p := by
  cases ag with
  | true =>
    simp only [takeTV] at he
    obtain ⟨u, hu1, he⟩ := ob_eq_some he
    obtain ⟨h0, h1⟩ := chk2 hu1
    have h0 := of_decide_eq_true h0
    have h1 := of_decide_eq_true h1
    obtain rfl := Option.some.inj he
    obtain ⟨i, hi, _⟩ := info_of_size h0
    let vs : Nat → Value := fun j => (w.cell? ⟨B, off + j, none⟩).getD undef
    have hv : ∀ j (hj : j < cs.length), w.cell? ⟨B, off + j, none⟩ = some (vs j) ∧ RV P w S β cs[j] (vs j) := by
      intro j hj
      obtain ⟨v, hv, hr⟩ := hc j hj
      have : vs j = v := by simp [vs, hv]
      rw [this]; exact ⟨hv, hr⟩
    refine ⟨_, run_loadVar_agg (vs := vs) ha (fun j hj => (hv j (by omega)).1) (by simp [hi]), ?_, ?_⟩
    · refine .agg (by simp; omega) ?_
      intro j hj hj'
      have : j < cs.length := by simp at hj; omega
      simp only [List.getElem_take, List.getElem_toArray, List.getElem_map, List.getElem_range]
      exact (hv j this).2
    · show okL p (cs.take _)
      rw [okL_iff] at *
      exact fun x hx => ho x (List.mem_of_mem_take hx)
  | false =>
    simp only [takeTV] at he
    obtain ⟨hj, hx⟩ := List.getElem?_eq_some_iff.1 he
    obtain ⟨v, hv, hr⟩ := hc 0 hj
    refine ⟨v, ?_, by rw [← hx]; exact hr, by rw [← hx]; exact okL_get ho 0 hj⟩
    have hv' : w.cell? ⟨B, off, none⟩ = some v := by simpa using hv
    unfold tyAgg at ha
    cases hd : P.underlying t with
    | none => rw [hd] at ha; cases ha
    | some d =>
      rw [hd] at ha
      unfold loadVar isAgg underlying
      cases d <;> first | (cases ha; done) | skip
      all_goals simp [hd, hv']
theorem takeT_eq {agg : Bool} {n : Nat} {cs : List T} : takeT agg n cs = takeTV agg n (cs.map .d) := by
  cases agg with
  | true => simp [takeT, takeTV]
  | false => simp [takeT, takeTV]
theorem okL_map_d {p : Nat → Prop} (cs : List T) : okL p (cs.map .d) := by
  induction cs with
  | nil => trivial
  | cons a l ih => exact ⟨trivial, ih⟩
theorem okL_drop {p : Nat → Prop} {cs : List TV} (n : Nat) (h : okL p cs) : okL p (cs.drop n) := by
  rw [okL_iff] at *
  exact fun x hx => h x (List.mem_of_mem_drop hx)
theorem arr_cells {k : Nat} {o : Obj} {m : Nat} {es : List (List T)} (h : OV P w S β k o) (e : arrEs o = some (m, es)) :
    (0 < es.length → (β k).m = m ∧ (β k).live = true) ∧ (β k).len = es.length ∧ es.length ≤ (β k).cap ∧ (∀ x ∈ es, x.length = m) ∧
      ∀ i j (hi : i < es.length) (hj : j < es[i].length), ∃ v, w.cell? ⟨(β k).blk, i * m + j, none⟩ = some v ∧ Rep w S es[i][j] v := by
  cases h with
  | box hv hb hl h ht => cases e
  | arr hv hb hA hm h0 hlen hcap hmax hsz h ht =>
    cases e
    refine ⟨fun _ => ⟨hm, hv⟩, hlen, hcap, h.hm, fun i j hi hj => ?_⟩
    obtain ⟨v, hv, hr⟩ := h.cell i j hi hj
    exact ⟨v, by rw [cell_of_block hb]; exact hv, hr⟩
  | fz hv hb hA hm h0 hlen hcap h hs hT =>
    cases e
    refine ⟨fun _ => ⟨hm, hv⟩, hlen, hcap, h.hm, fun i j hi hj => ?_⟩
    obtain ⟨v, hv, hr⟩ := h.cell i j hi hj
    exact ⟨v, by rw [cell_of_block hb]; exact hv, hr⟩
  | arrN hv hm h0 hlen hcap => cases e; exact ⟨fun h => absurd h (by simp), by simpa using hlen, by simp, by simp, fun i j hi => absurd hi (by simp)⟩
  | fzN hv hlen => cases e; exact ⟨fun h => absurd h (by simp), by simpa using hlen, by simp, by simp, fun i j hi => absurd hi (by simp)⟩
theorem loadAt_sound (h : Sim P X β0 w0 S0 st a w S β) {t : TypeId} {ag : Bool} (ha : tyAgg P t = some ag) {tv x : TV} {v : Value} (hr : RV P w S β tv v) (e : loadAt ag (tySize P t) st tv = some x) :
    ∃ u, (Instr.loadAt t v).run P w = .ok u w ∧ RV P w S β x u ∧ x.ok (· ∈ st.ks) := by
  cases hr with
  | ptr k off =>
    simp only [loadAt] at e
    obtain ⟨o, ho, e⟩ := ob_eq_some e
    obtain ⟨cs, hcs, e⟩ := ob_eq_some e
    obtain ⟨hov, hok, _⟩ := h.objs k o ho
    cases hov with
    | box hlv hb hl hv ht =>
      cases hcs
      simp only [Instr.loadAt, Instr.sureAddr, Sem.run_bind, Sem.run_pure, Result.andThen_ok]
      refine run_loadVar_take ha (cs := cs.drop off) ?_ (okL_drop off hok) e
      intro j hj
      have hj' : off + j < cs.length := by simp at hj; omega
      refine ⟨_, ?_, by rw [List.getElem_drop]; exact hv (off + j) hj' (by omega)⟩
      rw [cell_of_block hb]
      exact Array.getElem?_eq_getElem (by omega)
    | _ => cases hcs
  | ap k i f =>
    simp only [loadAt] at e
    obtain ⟨o, ho, e⟩ := ob_eq_some e
    obtain ⟨⟨m, es⟩, hes, e⟩ := ob_eq_some e
    obtain ⟨el, hel, e⟩ := ob_eq_some e
    obtain ⟨hi, rfl⟩ := List.getElem?_eq_some_iff.1 hel
    obtain ⟨hm, hlen, hcap, hall, hc⟩ := arr_cells (h.objs k o ho).1 hes
    rw [takeT_eq] at e
    simp only [Instr.loadAt, Instr.sureAddr, Sem.run_bind, Sem.run_pure, Result.andThen_ok]
    refine run_loadVar_take ha (cs := ((es[i]).drop f).map .d) ?_ (okL_map_d _) e
    intro j hj
    have hj' : f + j < (es[i]).length := by simp at hj; omega
    obtain ⟨v, hv, hr⟩ := hc i (f + j) hi hj'
    refine ⟨v, by rw [(hm (Nat.lt_of_le_of_lt (Nat.zero_le _) hi)).1, Nat.add_assoc]; exact hv, ?_⟩
    simp only [List.getElem_map, List.getElem_drop]
    exact .d hr
  | rp hs hc hr =>
    rename_i cs B off vs
    simp only [loadAt, takeT_eq] at e
    simp only [Instr.loadAt, Instr.sureAddr, Sem.run_bind, Sem.run_pure, Result.andThen_ok]
    refine run_loadVar_take ha (cs := cs.map .d) ?_ (okL_map_d _) e
    intro j hj
    have hj' : j < cs.length := by simpa using hj
    exact ⟨_, hc j hj', by simp only [List.getElem_map]; exact .d (hr j hj')⟩
  | unk v => cases e
  | d h => cases e
  | nl a => cases e
  | agg hl h => cases e
  | tup hl h => cases e
  | own k => cases e
  | clo hl h => cases e
  | fn h => cases e
theorem rp_drop {cs : List T} {v : Value} (h : RV P w S β (.rp cs) v) (n : Nat) : ∃ B off, v = .pointer (some ⟨B, off, none⟩) ∧ RV P w S β (.rp (cs.drop n)) (.pointer (some ⟨B, off + n, none⟩)) := by
  cases h with
  | rp hs hc hr =>
    rename_i B off vs
    refine ⟨B, off, rfl, .rp (vs := fun j => vs (n + j)) ?_ ?_ ?_⟩
    · intro j hj
      have := hs (n + j) (by simp at hj; omega)
      rwa [← Nat.add_assoc] at this
    · intro j hj
      have := hc (n + j) (by simp at hj; omega)
      rwa [← Nat.add_assoc] at this
    · intro j hj
      simp only [List.getElem_drop]
      exact hr (n + j) (by simp at hj; omega)
theorem fieldAt_sound {s : TypeId} {f o : Nat} {tv x : TV} {v : Value} {p : Nat → Prop} (hr : RV P w S β tv v) (hok : tv.ok p) (ho : tyOff P s f = some o) (e : fieldAt o tv = some x) :
    ∃ u, (Instr.fieldAt s v f).run P w = .ok u w ∧ RV P w S β x u ∧ x.ok p := by
  unfold tyOff at ho
  cases hu : P.underlying s with
  | none => simp [hu] at ho
  | some d =>
    rw [hu] at ho
    cases d <;> first | (simp at ho; done) | skip
    rename_i fs
    cases hf : fs[f]? with
    | none => simp [hf] at ho
    | some fd =>
      simp only [hf] at ho
      split at ho
      · cases ho
      rename_i hz
      cases ho
      obtain ⟨i, hi, hsz⟩ := info_of_size (Nat.pos_of_ne_zero hz)
      have run : ∀ B off, (Instr.fieldAt s (.pointer (some ⟨B, off, none⟩)) f).run P w = .ok (.pointer (some ⟨B, off + fd.offset, none⟩)) w := by
        intro B off
        have hz' : ¬ i.size = 0 := by rw [← hsz]; exact hz
        simp [Instr.fieldAt, Instr.sureAddr, underlying, hu, hf, fieldPlace, sizeOf, typeInfo, hi, hz', Addr_add]
      cases hr with
      | ptr k off => cases e; exact ⟨_, run _ _, .ptr _ _, hok⟩
      | ap k i f =>
        cases e
        refine ⟨_, run _ _, ?_, hok⟩
        rw [Nat.add_assoc]
        exact .ap _ _ _
      | rp hs hc hr =>
        cases e
        obtain ⟨B, off, hv, h2⟩ := rp_drop (.rp hs hc hr) fd.offset
        cases hv
        exact ⟨_, run _ _, h2, trivial⟩
      | unk v => cases e
      | d h => cases e
      | nl a => cases e
      | agg hl h => cases e
      | tup hl h => cases e
      | own k => cases e
      | clo hl h => cases e
      | fn h => cases e
theorem indexAt_sound (h : Sim P X β0 w0 S0 st a w S β) {t el : TypeId} {k : IntKind} {n : Int} {tv x : TV} {v : Value} (hr : RV P w S β tv v) (ht : tyElem P t = some el)
    (e : indexAt (tySize P el) st n tv = some x) (hok : tv.ok (· ∈ st.ks)) (hz : 0 < tySize P el) :
    ∃ u, (Instr.indexAt t v (.int k n)).run P w = .ok u w ∧ RV P w S β x u ∧ x.ok (· ∈ st.ks) := by
  have hu : P.underlying t = some (.slice el) := by
    unfold tyElem at ht
    cases hu : P.underlying t with
    | none => simp [hu] at ht
    | some d => rw [hu] at ht; cases d <;> first | (simp at ht; done) | (simp at ht; subst ht; rfl)
  obtain ⟨i, hi, hsz⟩ := info_of_size hz
  have run : ∀ (B off len cap : Nat), 0 ≤ n → n < (len : Int) → (Instr.indexAt t (.slice (some ⟨B, off, none⟩) len cap) (.int k n)).run P w = .ok (.pointer (some ⟨B, off + n.toNat * i.size, none⟩)) w := by
    intro B off len cap h1 h2
    simp [Instr.indexAt, asIntOf, underlying, hu, h1, h2, sizeOf, typeInfo, hi, Addr_add]
  cases hr with
  | d hd =>
    cases hd with
    | nil blk a cap => simp [indexAt, ob] at e
    | sl blk es B off m cap vs hb htk h0m hm hcap hs hc hr =>
      simp only [indexAt] at e
      obtain ⟨el', hel, e⟩ := ob_eq_some e
      obtain ⟨hlt, rfl⟩ := List.getElem?_eq_some_iff.1 hel
      obtain ⟨u, hu', e⟩ := ob_eq_some e
      obtain ⟨h0, h1⟩ := chk2 hu'
      have h0 := of_decide_eq_true h0
      have h1 : (es[n.toNat]).length = tySize P el := by simpa using h1
      cases e
      have hm' : m = i.size := by rw [← hm _ (List.getElem_mem hlt), h1, hsz]
      subst hm'
      refine ⟨_, run B off _ cap h0 (by omega), .rp (vs := fun j => vs n.toNat j) ?_ ?_ ?_, trivial⟩
      · exact fun j hj => hs n.toNat j hlt hj
      · exact fun j hj => hc n.toNat j hlt hj
      · exact fun j hj => hr n.toNat j hlt hj
    | b x => simp [indexAt] at e
    | i k n => simp [indexAt] at e
    | s x => simp [indexAt] at e
    | raw v => simp [indexAt] at e
  | own ky ao hao =>
    simp only [indexAt] at e
    obtain ⟨o, ho, e⟩ := ob_eq_some e
    obtain ⟨⟨m, es⟩, hes, e⟩ := ob_eq_some e
    obtain ⟨u, hu', e⟩ := ob_eq_some e
    obtain ⟨h01, h2⟩ := chk2 hu'
    simp only [Bool.and_eq_true, decide_eq_true_eq] at h01
    have h2 : m = tySize P el := by simpa using h2
    cases e
    obtain ⟨hm, hlen, hcap, hall, hc⟩ := arr_cells (h.objs ky o ho).1 hes
    have h01' : n.toNat < es.length := h01.2
    obtain ⟨hm, hlv⟩ := hm (by omega)
    obtain rfl := hao hlv
    refine ⟨_, run _ 0 _ _ h01.1 (by rw [hlen]; omega), ?_, hok⟩
    have : 0 + n.toNat * i.size = n.toNat * (β ky).m + 0 := by rw [hm, h2, hsz]; omega
    rw [this]
    exact .ap _ _ _
  | unk v => simp [indexAt] at e
  | nl a => simp [indexAt] at e
  | agg hl h => simp [indexAt] at e
  | tup hl h => simp [indexAt] at e
  | ptr k off => simp [indexAt] at e
  | ap k i f => simp [indexAt] at e
  | rp hs hc hr => simp [indexAt] at e
  | clo hl h => simp [indexAt] at e
  | fn h => simp [indexAt] at e
end
end Go.Av
end
section
set_option linter.unusedSectionVars false
namespace Go.Av
section
variable [Known] {P : Program} {X : Nat → Prop} {β0 : Places} {w0 w : World} {S0 S : Stable} {st st' : St} {a : Act} {β : Places}
def Gives (P : Program) (s : Sem Value) (w : World) (S : Stable) (β : Places) (x : TV) (p : Nat → Prop) : Prop :=
  ∃ u, s.run P w = .ok u w ∧ RV P w S β x u ∧ x.ok p
theorem rv_int {k : IntKind} {n : Int} {v : Value} (h : RV P w S β (.d (.i k n)) v) : v = .int k n := by
  cases h with | d h => cases h; rfl
theorem rv_bool {n : Bool} {v : Value} (h : RV P w S β (.d (.b n)) v) : v = .bool n := by
  cases h with | d h => cases h; rfl
theorem rv_str {n : ByteArray} {v : Value} (h : RV P w S β (.d (.s n)) v) : v = .string n := by
  cases h with | d h => cases h; rfl
theorem binOp_arith {op : BinOp} {k : IntKind} {x y : Int} {ty : TypeId} (h : op = .add ∨ op = .sub ∨ op = .mul) : binOp op ty (.int k x) (.int k y) = Op.intArith op k x y := by
  rcases h with rfl | rfl | rfl <;> simp only [binOp, ne_eq, not_true_eq_false, if_false]
theorem binOp_div {op : BinOp} {k : IntKind} {x y : Int} {ty : TypeId} (h : op = .quo ∨ op = .rem) : binOp op ty (.int k x) (.int k y) = Op.intDiv op k x y := by
  rcases h with rfl | rfl <;> simp only [binOp, ne_eq, not_true_eq_false, if_false]
theorem binOp_cmp {op : BinOp} {k : IntKind} {x y : Int} {ty : TypeId} (h : op = .eql ∨ op = .neq ∨ op = .lss ∨ op = .leq ∨ op = .gtr ∨ op = .geq) : binOp op ty (.int k x) (.int k y) = Op.intCmp op x y := by
  rcases h with rfl | rfl | rfl | rfl | rfl | rfl <;> simp only [binOp, ne_eq, not_true_eq_false, if_false]
theorem binOp_str {op : BinOp} {x y : ByteArray} {ty : TypeId} (h : op ≠ .shl ∧ op ≠ .shr) : binOp op ty (.string x) (.string y) = Op.stringOp op x y := by
  cases op <;> first | rfl | exact absurd rfl h.1 | exact absurd rfl h.2
theorem binOp_bits {op : BinOp} {k : IntKind} {x y : Int} {ty : TypeId} (h : op = .and ∨ op = .or ∨ op = .xor ∨ op = .andNot) : binOp op ty (.int k x) (.int k y) = Op.intBits op k x y := by
  rcases h with rfl | rfl | rfl | rfl <;> simp only [binOp, ne_eq, not_true_eq_false, if_false]
theorem intBin_sound {op : BinOp} {k : IntKind} {x y : Int} {t : T} {ty : TypeId} {p : Nat → Prop} (e : intBin k x y op = some t) :
    Gives P (binOp op ty (.int k x) (.int k y)) w S β (.d t) p := by
  cases op <;> simp only [intBin] at e
  case add => cases e; exact ⟨_, by rw [binOp_arith (by simp)]; rfl, .d (.i _ _), trivial⟩
  case sub => cases e; exact ⟨_, by rw [binOp_arith (by simp)]; rfl, .d (.i _ _), trivial⟩
  case mul => cases e; exact ⟨_, by rw [binOp_arith (by simp)]; rfl, .d (.i _ _), trivial⟩
  case and => cases e; exact ⟨_, by rw [binOp_bits (by simp)]; rfl, .d (.i _ _), trivial⟩
  case or => cases e; exact ⟨_, by rw [binOp_bits (by simp)]; rfl, .d (.i _ _), trivial⟩
  case xor => cases e; exact ⟨_, by rw [binOp_bits (by simp)]; rfl, .d (.i _ _), trivial⟩
  case andNot => cases e; exact ⟨_, by rw [binOp_bits (by simp)]; rfl, .d (.i _ _), trivial⟩
  case eql => cases e; exact ⟨_, by rw [binOp_cmp (by simp)]; rfl, .d (.b _), trivial⟩
  case neq => cases e; exact ⟨_, by rw [binOp_cmp (by simp)]; rfl, .d (.b _), trivial⟩
  case lss => cases e; exact ⟨_, by rw [binOp_cmp (by simp)]; rfl, .d (.b _), trivial⟩
  case leq => cases e; exact ⟨_, by rw [binOp_cmp (by simp)]; rfl, .d (.b _), trivial⟩
  case gtr => cases e; exact ⟨_, by rw [binOp_cmp (by simp)]; rfl, .d (.b _), trivial⟩
  case geq => cases e; exact ⟨_, by rw [binOp_cmp (by simp)]; rfl, .d (.b _), trivial⟩
  case quo =>
    obtain ⟨u, hu, e⟩ := ob_eq_some e
    have h0 := of_decide_eq_true (chk_eq_some hu)
    cases e
    exact ⟨_, by rw [binOp_div (by simp), Op.intDiv, if_neg h0]; rfl, .d (.i _ _), trivial⟩
  case rem =>
    obtain ⟨u, hu, e⟩ := ob_eq_some e
    have h0 := of_decide_eq_true (chk_eq_some hu)
    cases e
    exact ⟨_, by rw [binOp_div (by simp), Op.intDiv, if_neg h0]; rfl, .d (.i _ _), trivial⟩
  all_goals cases e
theorem strBin_sound {op : BinOp} {x y : ByteArray} {t : T} {ty : TypeId} {p : Nat → Prop} (e : strBin x y op = some t) :
    Gives P (binOp op ty (.string x) (.string y)) w S β (.d t) p := by
  cases op <;> simp only [strBin] at e
  case add =>
    obtain ⟨u, hu, e⟩ := ob_eq_some e
    have h0 := of_decide_eq_true (chk_eq_some hu)
    cases e
    have h1 : ¬ ((x.size + y.size : Nat) : Int) > IntKind.i64.max := by
      have : IntKind.i64.max = 9223372036854775807 := by decide
      omega
    exact ⟨_, by rw [binOp_str (by simp)]; simp only [Op.stringOp]; rw [if_neg h1]; rfl, .d (.s _), trivial⟩
  case eql => cases e; exact ⟨_, by rw [binOp_str (by simp)]; rfl, .d (.b _), trivial⟩
  case neq => cases e; exact ⟨_, by rw [binOp_str (by simp)]; rfl, .d (.b _), trivial⟩
  case lss => cases e; exact ⟨_, by rw [binOp_str (by simp)]; rfl, .d (.b _), trivial⟩
  case leq => cases e; exact ⟨_, by rw [binOp_str (by simp)]; rfl, .d (.b _), trivial⟩
  case gtr => cases e; exact ⟨_, by rw [binOp_str (by simp)]; rfl, .d (.b _), trivial⟩
  case geq => cases e; exact ⟨_, by rw [binOp_str (by simp)]; rfl, .d (.b _), trivial⟩
  all_goals cases e
theorem equal_bool {x y : Bool} {ty : TypeId} (hu : P.underlying ty = some .bool) : (Op.equal ty (.bool x) (.bool y)).run P w = .ok (x == y) w := by
  have h : ∀ d, (Op.equalIn (d + 1) ty (.bool x) (.bool y)).run P w = .ok (x == y) w := by
    intro d
    simp only [Op.equalIn, Sem.run_bind, underlying, run_program, Result.andThen_ok, hu, Sem.run_pure]
  exact h 9999
theorem boolBin_sound {op : BinOp} {x y : Bool} {t : T} {ty : TypeId} {p : Nat → Prop} (hu : P.underlying ty = some .bool) (e : boolBin x y op = some t) :
    Gives P (binOp op ty (.bool x) (.bool y)) w S β (.d t) p := by
  cases op <;> simp only [boolBin] at e
  case eql =>
    cases e
    refine ⟨.bool (x == y), ?_, .d (.b _), trivial⟩
    show (do pure (.bool (← Op.equal ty (.bool x) (.bool y))) : Sem Value).run P w = _
    simp only [Sem.run_bind, equal_bool hu, Result.andThen_ok, Sem.run_pure]
  case neq =>
    cases e
    refine ⟨.bool (!(x == y)), ?_, .d (.b _), trivial⟩
    show (do pure (.bool (!(← Op.equal ty (.bool x) (.bool y)))) : Sem Value).run P w = _
    simp only [Sem.run_bind, equal_bool hu, Result.andThen_ok, Sem.run_pure]
  all_goals cases e
theorem rv_d {t : T} {v : Value} (h : RV P w S β (.d t) v) : Rep w S t v := by cases h with | d h => exact h
theorem eqK_sound {k : Kd} {x y : TV} {u v : Value} {r : Bool} {ty : TypeId} {d : Nat} {dd : TypeDesc} (hx : RV P w S β x u) (hy : RV P w S β y v)
    (hu : P.underlying ty = some dd) (hk : kdOf dd = some k) (e : eqK k x y = some r) : (Op.equalIn (d + 1) ty u v).run P w = .ok r w := by
  unfold eqK at e
  split at e
  · obtain rfl := rv_bool hx; obtain rfl := rv_bool hy
    cases e
    cases dd <;> first | (cases hk; done) | skip
    exact run_equalIn_bool' w d ty _ _ hu
  · obtain rfl := rv_int hx; obtain rfl := rv_int hy
    obtain ⟨q, hq, e2⟩ := ob_eq_some e
    have h0 := of_decide_eq_true (chk_eq_some hq)
    clear e hq
    subst h0
    obtain rfl := Option.some.inj e2
    cases dd <;> first | (cases hk; done) | skip
    exact run_equalIn_int w d ty _ _ _ _ hu
  · obtain rfl := rv_str hx; obtain rfl := rv_str hy
    cases e
    cases dd <;> first | (cases hk; done) | skip
    exact run_equalIn_string w d ty _ _ hu
  · cases e
theorem run_part {ty : TypeId} {dd : TypeDesc} {k : Kd} {cs : Array Value} {i : Nat} {v : Value} (hu : P.underlying ty = some dd) (hk : kdOf dd = some k) (hv : cs[i]? = some v) :
    (part ty cs i).run P w = .ok v w := by
  unfold part isAgg
  cases dd <;> first | (cases hk; done) | skip
  all_goals simp [underlying, hu, hv]
theorem eqFields_sound {d : Nat} {us vs : Array Value} : ∀ (fs : List Field) (i : Nat) (ks : List Kd) (xs ys : List TV) (r : Bool),
    plainFields P i fs = some ks → eqKs ks xs ys = some r → (∀ j (hj : j < xs.length), ∃ u, us[i + j]? = some u ∧ RV P w S β xs[j] u) →
    (∀ j (hj : j < ys.length), ∃ u, vs[i + j]? = some u ∧ RV P w S β ys[j] u) → (Op.eqFields (d + 1) us vs fs).run P w = .ok r w := by
  intro fs
  induction fs with
  | nil =>
    intro i ks xs ys r hp he _ _
    cases hp
    cases xs <;> cases ys <;> simp [eqKs] at he
    subst he
    rfl
  | cons f fs ih =>
    intro i ks xs ys r hp he hx hy
    simp only [plainFields] at hp
    obtain ⟨u, hu, hp⟩ := ob_eq_some hp
    obtain ⟨hn, ho⟩ := chk2 hu
    obtain ⟨dd, hdd, hp⟩ := ob_eq_some hp
    obtain ⟨k, hk, hp⟩ := ob_eq_some hp
    obtain ⟨ks', hks, hp⟩ := ob_eq_some hp
    cases hp
    cases xs with
    | nil => cases ys <;> simp [eqKs] at he
    | cons x xs =>
      cases ys with
      | nil => simp [eqKs] at he
      | cons y ys =>
        simp only [eqKs] at he
        obtain ⟨q, hq, he⟩ := ob_eq_some he
        obtain ⟨q2, hq2, he⟩ := ob_eq_some he
        cases he
        have ho' : f.offset = i := by simpa using ho
        have hn' : f.name ≠ "_" := by simpa using hn
        obtain ⟨a1, ha1, hr1⟩ := hx 0 (by simp)
        obtain ⟨a2, ha2, hr2⟩ := hy 0 (by simp)
        simp only [Nat.add_zero] at ha1 ha2
        have hrest := ih (i + 1) ks' xs ys q2 hks hq2
          (fun j hj => by obtain ⟨z, hz, hz2⟩ := hx (j + 1) (by simpa using hj); exact ⟨z, by rw [← hz]; congr 1; omega, by simpa using hz2⟩)
          (fun j hj => by obtain ⟨z, hz, hz2⟩ := hy (j + 1) (by simpa using hj); exact ⟨z, by rw [← hz]; congr 1; omega, by simpa using hz2⟩)
        have h1 := eqK_sound (d := d) (by simpa using hr1) (by simpa using hr2) hdd hk hq
        simp only [Op.eqFields, if_pos hn', Sem.run_bind, ho', run_part hdd hk ha1, run_part hdd hk ha2, Result.andThen_ok, h1, Sem.run_ite, Sem.run_pure]
        cases q
        · simp
        · simp [hrest]
end
end Go.Av
end
section
set_option linter.unusedSectionVars false
namespace Go.Av
section
variable [Known] {P : Program} {X : Nat → Prop} {β0 : Places} {w0 w : World} {S0 S : Stable} {st st' : St} {a : Act} {β : Places}
theorem tyElem_eq {t el : TypeId} (ht : tyElem P t = some el) : P.underlying t = some (.slice el) := by
  unfold tyElem at ht
  cases hu : P.underlying t with
  | none => simp [hu] at ht
  | some d => rw [hu] at ht; cases d <;> first | (simp at ht; done) | (simp at ht; subst ht; rfl)
theorem tyStr_eq {t : TypeId} (ht : tyStr P t = true) : P.underlying t = some .string := by
  unfold tyStr at ht
  cases hu : P.underlying t with
  | none => simp [hu] at ht
  | some d => rw [hu] at ht; cases d <;> first | (simp at ht; done) | rfl
theorem tyBool_eq {t : TypeId} (ht : tyBool P t = true) : P.underlying t = some .bool := by
  unfold tyBool at ht
  cases hu : P.underlying t with
  | none => simp [hu] at ht
  | some d => rw [hu] at ht; cases d <;> first | (simp at ht; done) | rfl
theorem eqGuard_plain {op : BinOp} {t : TypeId} {x y : Operand} {u v : Value} (h : (∀ cs, u ≠ .agg cs) ∧ u ≠ .nilIface) : (eqGuard op t x y u v).run P w = .ok () w := by
  have e : eqGuard op t x y u v = pure () := by
    unfold eqGuard
    cases u with
    | nilIface => exact absurd rfl h.2
    | agg cs => exact absurd rfl (h.1 cs)
    | _ => cases op <;> rfl
  rw [e]; rfl
theorem tyPtr_eq {t e : TypeId} (h : tyPtr P t = some e) : P.underlying t = some (.pointer e) ∧ ∃ i, P.info? e = some i := by
  unfold tyPtr at h
  split at h
  · rename_i e' hu
    obtain ⟨i, h1, h2⟩ := ob_eq_some h
    cases h2
    exact ⟨hu, i, h1⟩
  · cases h
theorem rv_raw {v u : Value} (h : RV P w S β (.d (.raw v)) u) : u = v := by
  cases h with
  | d h => cases h; rfl
theorem eqPtr_sound {ty e : TypeId} {tx tyv : TV} {u v : Value} {r : Bool} (hp : tyPtr P ty = some e) (hx : RV P w S β tx u) (hy : RV P w S β tyv v) (h : eqPtr tx tyv = some r) :
    (Op.equal ty u v).run P w = .ok r w ∧ ∃ p1 p2, u = .pointer p1 ∧ v = .pointer p2 := by
  obtain ⟨hu, i, hi⟩ := tyPtr_eq hp
  have red : ∀ x y, (∀ d : Nat, (Op.equalIn (d + 1) ty x y).run P w = .ok r w) → (Op.equal ty x y).run P w = .ok r w := fun x y h => h 9999
  unfold eqPtr at h
  split at h
  · obtain ⟨_, h1, h⟩ := ob_eq_some h
    cases h
    obtain ⟨h2, h3⟩ := chk2 h1
    have h2 := of_decide_eq_true h2
    have h3 := of_decide_eq_true h3
    subst h2; subst h3
    cases hx; cases hy
    exact ⟨red _ _ fun d => by simp [Op.equalIn, run_underlying hu, sizeOf, typeInfo, hi, run_sameAddr_same], _, _, rfl, rfl⟩
  · cases h
    cases hx
    obtain rfl := rv_raw hy
    exact ⟨red _ _ fun d => by simp [Op.equalIn, run_underlying hu], _, _, rfl, rfl⟩
  · cases h
    cases hy
    obtain rfl := rv_raw hx
    exact ⟨red _ _ fun d => by simp [Op.equalIn, run_underlying hu], _, _, rfl, rfl⟩
  · cases h
    obtain rfl := rv_raw hx
    obtain rfl := rv_raw hy
    exact ⟨red _ _ fun d => by simp [Op.equalIn, run_underlying hu], _, _, rfl, rfl⟩
  · cases h
theorem binPtr_sound {op : BinOp} {ty : TypeId} {x y : Operand} {tx tyv t : TV} {u v : Value} {p : Nat → Prop} (hx : RV P w S β tx u) (hy : RV P w S β tyv v)
    (e : binPtr P ty op tx tyv = some t) : Gives P (do eqGuard op ty x y u v; binOp op ty u v) w S β t p := by
  unfold binPtr at e
  obtain ⟨el, h1, e⟩ := ob_eq_some e
  obtain ⟨r, h2, e⟩ := ob_eq_some e
  obtain ⟨z, h3, rfl⟩ := Option.map_eq_some_iff.1 e
  obtain ⟨hrun, p1, p2, rfl, rfl⟩ := eqPtr_sound h1 hx hy h2
  cases op <;> first | (cases h3; done) | skip
  · cases h3
    refine ⟨.bool r, ?_, ?_, trivial⟩
    · rw [Sem.run_bind, eqGuard_plain (by simp), Result.andThen_ok]
      show (do pure (.bool (← Op.equal ty (.pointer p1) (.pointer p2))) : Sem Value).run P w = _
      simp only [Sem.run_bind, hrun, Result.andThen_ok, Sem.run_pure]
    · have : (r == true) = r := by cases r <;> rfl
      rw [this]
      exact .d (.b r)
  · cases h3
    refine ⟨.bool (!r), ?_, ?_, trivial⟩
    · rw [Sem.run_bind, eqGuard_plain (by simp), Result.andThen_ok]
      show (do pure (.bool (!(← Op.equal ty (.pointer p1) (.pointer p2)))) : Sem Value).run P w = _
      simp only [Sem.run_bind, hrun, Result.andThen_ok, Sem.run_pure]
    · have : (!(r == true)) = !r := by cases r <;> rfl
      rw [this]
      exact .d (.b _)
theorem binAt2_sound {op : BinOp} {ty : TypeId} {x y : Operand} {tx tyv t : TV} {u v : Value} {p : Nat → Prop} (hx : RV P w S β tx u) (hy : RV P w S β tyv v)
    (e : binAt2 P ty op tx tyv = some t) : Gives P (do eqGuard op ty x y u v; binOp op ty u v) w S β t p := by
  unfold binAt2 at e
  split at e
  · obtain ⟨q, hq, e2⟩ := ob_eq_some e
    have h0 := of_decide_eq_true (chk_eq_some hq)
    clear e hq
    subst h0
    obtain rfl := rv_int hx; obtain rfl := rv_int hy
    obtain ⟨r, hr, rfl⟩ := Option.map_eq_some_iff.1 e2
    obtain ⟨z, hz, h1, h2⟩ := intBin_sound (P := P) (w := w) (S := S) (β := β) (ty := ty) (p := p) hr
    exact ⟨z, by rw [Sem.run_bind, eqGuard_plain (by simp)]; exact hz, h1, h2⟩
  · obtain rfl := rv_str hx; obtain rfl := rv_str hy
    obtain ⟨r, hr, rfl⟩ := Option.map_eq_some_iff.1 e
    obtain ⟨z, hz, h1, h2⟩ := strBin_sound (P := P) (w := w) (S := S) (β := β) (ty := ty) (p := p) hr
    exact ⟨z, by rw [Sem.run_bind, eqGuard_plain (by simp)]; exact hz, h1, h2⟩
  · obtain ⟨q, hq, e2⟩ := ob_eq_some e
    obtain rfl := rv_bool hx; obtain rfl := rv_bool hy
    obtain ⟨r, hr, rfl⟩ := Option.map_eq_some_iff.1 e2
    obtain ⟨z, hz, h1, h2⟩ := boolBin_sound (P := P) (w := w) (S := S) (β := β) (ty := ty) (p := p) (tyBool_eq (chk_eq_some hq)) hr
    exact ⟨z, by rw [Sem.run_bind, eqGuard_plain (by simp)]; exact hz, h1, h2⟩
  · rename_i xs ys
    obtain ⟨ks, hks, e2⟩ := ob_eq_some e
    obtain ⟨r, hr, e3⟩ := ob_eq_some e2
    cases hx with
    | agg hl1 hx =>
      cases hy with
      | agg hl2 hy =>
        rename_i us vs
        unfold tyPlain at hks
        cases hu : P.underlying ty with
        | none => simp [hu] at hks
        | some dd =>
          rw [hu] at hks
          cases dd <;> first | (simp at hks; done) | skip
          rename_i fs
          obtain ⟨q, hq, hp⟩ := ob_eq_some hks
          obtain ⟨h1, h2⟩ := chk2 hq
          have hf : P.underlying ty = some (.struct (P.fieldsOf ty)) := by simp [Program.fieldsOf, hu]
          have hfs : P.fieldsOf ty = fs := by simp [Program.fieldsOf, hu]
          have hrun : (Op.equalIn 10000 ty (.agg us) (.agg vs)).run P w = .ok r w := by
            have := run_equalIn_struct (P := P) w 9999 ty us vs hf (by simpa using h1)
            rw [show (10000 : Nat) = 9999 + 1 from rfl, this, hfs]
            exact eqFields_sound (d := 9998) fs.toList 0 ks xs ys r hp hr
              (fun j hj => ⟨us[j]'(by omega), by rw [Nat.zero_add]; exact Array.getElem?_eq_getElem (by omega), hx j hj (by omega)⟩)
              (fun j hj => ⟨vs[j]'(by omega), by rw [Nat.zero_add]; exact Array.getElem?_eq_getElem (by omega), hy j hj (by omega)⟩)
          have hg : (eqGuard op ty x y (.agg us) (.agg vs)).run P w = .ok () w := run_eqGuard_agg w op ty x y us vs (by simpa using h2)
          obtain ⟨z, hz, rfl⟩ := Option.map_eq_some_iff.1 e3
          cases op <;> simp only [boolBin] at hz <;> try (cases hz; done)
          · cases hz
            refine ⟨.bool r, ?_, by simpa using RV.d (.b _), trivial⟩
            rw [Sem.run_bind, hg]
            simp only [Result.andThen_ok, run_eql_struct, hrun]
          · cases hz
            refine ⟨.bool (!r), ?_, by simpa using RV.d (.b _), trivial⟩
            rw [Sem.run_bind, hg]
            simp only [Result.andThen_ok, run_neq_struct, hrun]
  · exact binPtr_sound hx hy e
  · exact binPtr_sound hx hy e
  · cases e
theorem binOp_shl {k j : IntKind} {x y : Int} {ty : TypeId} : binOp .shl ty (.int k x) (.int j y) = Op.shift .shl k x j y := rfl
theorem binOp_shr {k j : IntKind} {x y : Int} {ty : TypeId} : binOp .shr ty (.int k x) (.int j y) = Op.shift .shr k x j y := rfl
theorem binAt_sound {op : BinOp} {ty : TypeId} {x y : Operand} {tx tyv t : TV} {u v : Value} {p : Nat → Prop} (hx : RV P w S β tx u) (hy : RV P w S β tyv v)
    (e : binAt P ty op tx tyv = some t) : Gives P (do eqGuard op ty x y u v; binOp op ty u v) w S β t p := by
  unfold binAt at e
  cases hs : isShift op with
  | false => rw [hs] at e; exact binAt2_sound hx hy e
  | true =>
    rw [hs] at e
    simp only [cond_true] at e
    unfold shiftAt at e
    split at e
    · obtain rfl := rv_int hx; obtain rfl := rv_int hy
      obtain ⟨r, hr, rfl⟩ := Option.map_eq_some_iff.1 e
      cases op <;> simp [isShift] at hs <;> simp only [shiftI] at hr
      · obtain ⟨_, h1, hr⟩ := ob_eq_some hr
        have h1 := of_decide_eq_true (chk_eq_some h1)
        cases hr
        refine ⟨_, ?_, .d (.i _ _), trivial⟩
        rw [Sem.run_bind, eqGuard_plain (by simp), Result.andThen_ok]
        first | rw [binOp_shl] | rw [binOp_shr]
        unfold Op.shift
        rw [if_neg (by omega)]
        rfl
      · obtain ⟨_, h1, hr⟩ := ob_eq_some hr
        have h1 := of_decide_eq_true (chk_eq_some h1)
        cases hr
        refine ⟨_, ?_, .d (.i _ _), trivial⟩
        rw [Sem.run_bind, eqGuard_plain (by simp), Result.andThen_ok]
        first | rw [binOp_shl] | rw [binOp_shr]
        unfold Op.shift
        rw [if_neg (by omega)]
        rfl
    · cases e
theorem unAt_sound {op : UnOp} {tx t : TV} {u : Value} {p : Nat → Prop} (hx : RV P w S β tx u) (e : unAt op tx = some t) : Gives P (Op.unary op u) w S β t p := by
  unfold unAt at e
  split at e
  · obtain rfl := rv_bool hx; cases e; exact ⟨_, rfl, .d (.b _), trivial⟩
  · obtain rfl := rv_int hx; cases e; exact ⟨_, rfl, .d (.i _ _), trivial⟩
  · cases e
theorem run_sliceBound {x : Value} {k : IntKind} {n : Int} {y : Nat} {code : BoundsCode} (hx : x = .int k n) (h0 : 0 ≤ n) (h1 : n ≤ y) : (Instr.sliceBound x y code).run P w = .ok n.toNat w := by
  subst hx
  simp [Instr.sliceBound, asIntOf, h0, h1]
theorem boundOf_sound (h : Sim P X β0 w0 S0 st a w S β) {d : Nat} {x : Option Operand} {n : Int} (e : boundOf st d x = some n) :
    (x = none ∧ n = d) ∨ ∃ y k, x = some y ∧ a.eval y = .int k n := by
  cases x with
  | none => simp only [boundOf, Option.some.injEq] at e; exact .inl ⟨rfl, e.symm⟩
  | some y =>
    simp only [boundOf] at e
    obtain ⟨k, _, hv⟩ := intOfTV_sound (evc_sound h y).1 e
    exact .inr ⟨y, k, rfl, hv⟩
theorem run_sliceBounds (h : Sim P X β0 w0 S0 st a w S β) {sl : Bool} {len cap : Nat} {lo hi : Option Operand} {l r : Int} (el : boundOf st 0 lo = some l) (er : boundOf st len hi = some r)
    (h0 : 0 ≤ l) (h1 : l ≤ r) (h2 : r ≤ len) (h3 : len ≤ cap) : (Instr.sliceBounds sl len cap (lo.map a.eval) (hi.map a.eval) none).run P w = .ok (l.toNat, r.toNat, cap) w := by
  have hr : r.toNat ≤ cap := by omega
  have h1' : l ≤ (r.toNat : Int) := by omega
  rcases boundOf_sound h el with ⟨rfl, hl⟩ | ⟨y, k, rfl, hy⟩
  · rcases boundOf_sound h er with ⟨rfl, hr'⟩ | ⟨z, j, rfl, hz⟩
    · subst hl; subst hr'; simp [Instr.sliceBounds]
    · subst hl
      simp [Instr.sliceBounds, run_sliceBound hz (by omega : 0 ≤ r) (by omega : r ≤ (cap : Int))]
  · rcases boundOf_sound h er with ⟨rfl, hr'⟩ | ⟨z, j, rfl, hz⟩
    · subst hr'
      simp [Instr.sliceBounds, run_sliceBound hy h0 h1]
    · simp [Instr.sliceBounds, run_sliceBound hz (by omega : 0 ≤ r) (by omega : r ≤ (cap : Int)), run_sliceBound hy h0 h1']
theorem sliceAt_sound (h : Sim P X β0 w0 S0 st a w S β) {t : TypeId} {lo hi : Option Operand} {tv x : TV} {v : Value} {p : Nat → Prop} (hr : RV P w S β tv v) (e : sliceAt P st t lo hi tv = some x) :
    Gives P (Instr.sliceAt t v (lo.map a.eval) (hi.map a.eval) none) w S β x p := by
  cases tv with
  | d d =>
    cases d with
    | s s =>
      obtain rfl := rv_str hr
      simp only [sliceAt] at e
      obtain ⟨_, h1, e⟩ := ob_eq_some e
      obtain ⟨l, hl, e⟩ := ob_eq_some e
      obtain ⟨r, hr', e⟩ := ob_eq_some e
      obtain ⟨_, h2, e⟩ := ob_eq_some e
      cases e
      obtain ⟨h3, h4, h5⟩ := of_decide_eq_true (chk_eq_some h2)
      have hu := tyStr_eq (chk_eq_some h1)
      refine ⟨_, ?_, .d (.s _), trivial⟩
      simp [Instr.sliceAt, Instr.slice, underlying, hu, run_sliceBounds h hl hr' h3 h4 h5 (Nat.le_refl _)]
    | sl b es =>
      simp only [sliceAt] at e
      obtain ⟨el, h1, e⟩ := ob_eq_some e
      obtain ⟨l, hl, e⟩ := ob_eq_some e
      obtain ⟨r, hr', e⟩ := ob_eq_some e
      obtain ⟨_, h2, e⟩ := ob_eq_some e
      cases e
      obtain ⟨h2, h6⟩ := chk2 h2
      obtain ⟨h3, h4, h5⟩ := of_decide_eq_true h2
      simp only [Bool.and_eq_true, decide_eq_true_eq, List.all_eq_true, beq_iff_eq] at h6
      obtain ⟨h6, h7⟩ := h6
      obtain ⟨i, hi', hsz⟩ := info_of_size h6
      have hu := tyElem_eq h1
      have key : ∀ A len cap, len = es.length → es.length ≤ cap → Rep w S (.sl b es) (.slice A len cap) → Gives P (Instr.sliceAt t (.slice A len cap) (lo.map a.eval) (hi.map a.eval) none) w S β (.d (.sl (unA b) ((es.take r.toNat).drop l.toNat))) p := by
        intro A len cap hlen hcap hrep
        subst hlen
        refine ⟨_, by simp [Instr.sliceAt, Instr.slice, underlying, hu, run_sliceBounds h hl hr' h3 h4 h5 hcap, sizeOf, typeInfo, hi']; rfl, .d ?_, trivial⟩
        by_cases hlr : l = r
        · subst hlr
          have : ((es.take l.toNat).drop l.toNat) = [] := by simp
          rw [this, Nat.sub_self]
          exact .nil _ _ _
        · have hne : ¬ cap = l.toNat := by omega
          rw [if_neg hne]
          generalize hes : es = es' at hrep
          generalize hlen : es'.length = n at hrep
          cases hrep with
          | nil => subst hes; simp at h5; omega
          | sl b es B off m cap vs hb htk h0m hm hcap2 hs hc hrr =>
            subst hes
            have hlen : ((es.take r.toNat).drop l.toNat).length = r.toNat - l.toNat := by simp; omega
            have hge : ∀ j (hj : j < ((es.take r.toNat).drop l.toNat).length), ((es.take r.toNat).drop l.toNat)[j] = es[l.toNat + j]'(by simp at hj; omega) := by
              intro j hj; simp
            have hm2 : m = i.size := by
              have h8 : 0 < es.length := by omega
              rw [← hm _ (List.getElem_mem h8), ← hsz]; exact h7 _ (List.getElem_mem h8)
            simp only [Option.map_some, Addr_add]
            rw [← hlen]
            refine .sl (unA b) _ B (off + l.toNat * i.size) m _ (fun x y => vs (l.toNat + x) y) (unA_has hb) (fun q hq => absurd hq (unA_tok b q)) h0m ?_ ?_ ?_ ?_ ?_
            · intro e he
              exact hm e (List.mem_of_mem_take (List.mem_of_mem_drop he))
            · rw [hlen]; omega
            · intro x y hx hy
              have := hs (l.toNat + x) y (by omega) (by rw [hge x hx] at hy; exact hy)
              rw [hm2] at this ⊢
              rw [Nat.add_mul] at this
              rw [show off + l.toNat * i.size + x * i.size + y = off + (l.toNat * i.size + x * i.size) + y by omega]; exact this
            · intro x y hx hy
              have := hc (l.toNat + x) y (by omega) (by rw [hge x hx] at hy; exact hy)
              rw [hm2] at this ⊢
              rw [Nat.add_mul] at this
              rw [show off + l.toNat * i.size + x * i.size + y = off + (l.toNat * i.size + x * i.size) + y by omega]; exact this
            · intro x y hx hy
              have := hrr (l.toNat + x) y (by omega) (by rw [hge x hx] at hy; exact hy)
              simpa [hge x hx] using this
      have hrd := rv_d hr
      cases hrd with
      | nil b A cap => exact key A 0 cap rfl (Nat.zero_le _) (.nil _ _ _)
      | sl b es B off m cap vs hb htk h0m hm hcap hs hc hrr => exact key _ _ cap rfl hcap (.sl b es B off m cap vs hb htk h0m hm hcap hs hc hrr)
    | b x => simp [sliceAt] at e
    | i k n => simp [sliceAt] at e
    | raw v => simp [sliceAt] at e
  | _ => simp [sliceAt] at e
end
end Go.Av
end
section
set_option linter.unusedSectionVars false
namespace Go.Av
section
variable [Known] {P : Program} {X : Nat → Prop} {β0 : Places} {w0 w : World} {S0 S : Stable} {st st' : St} {a : Act} {β : Places}
theorem lenOf_sound (h : Sim P X β0 w0 S0 st a w S β) {ty : TypeId} {tv : TV} {v : Value} {n : Nat} (hr : RV P w S β tv v) (e : lenOf P ty st tv = some n) :
    (∃ s, v = .string s ∧ s.size = n ∧ P.underlying ty = some .string) ∨ ∃ A cap el, v = .slice A n cap ∧ P.underlying ty = some (.slice el) := by
  unfold lenOf at e
  split at e
  · obtain rfl := rv_str hr
    obtain ⟨_, h1, e⟩ := ob_eq_some e
    cases e; exact .inl ⟨_, rfl, rfl, tyStr_eq (chk_eq_some h1)⟩
  · obtain ⟨el, h1, e⟩ := ob_eq_some e
    cases e
    have := rv_d hr
    cases this with
    | nil => exact .inr ⟨_, _, _, rfl, tyElem_eq h1⟩
    | sl => exact .inr ⟨_, _, _, rfl, tyElem_eq h1⟩
  · obtain ⟨el, h1, e⟩ := ob_eq_some e
    cases e; cases hr with | nl a => exact .inr ⟨_, _, _, rfl, tyElem_eq h1⟩
  · rename_i k
    obtain ⟨el, h1, e⟩ := ob_eq_some e
    obtain ⟨o, ho, e⟩ := ob_eq_some e
    obtain ⟨⟨m, es⟩, hes, e⟩ := ob_eq_some e
    cases e
    cases hr with
    | own =>
      obtain ⟨_, hlen, _⟩ := arr_cells (h.objs k o ho).1 hes
      exact .inr ⟨_, _, _, by rw [← hlen], tyElem_eq h1⟩
  · cases e
theorem tyInt_eq {t : TypeId} {k : IntKind} (ht : tyInt P t = some k) : P.underlying t = some (.int k) := by
  unfold tyInt at ht
  cases hu : P.underlying t with
  | none => simp [hu] at ht
  | some d => rw [hu] at ht; cases d <;> first | (simp at ht; done) | (simp at ht; subst ht; rfl)
theorem foldl_set {off : Nat} : ∀ (vs : List Value) (j : Nat) (cells : Array Value), off + j + vs.length ≤ cells.size →
    ((vs.zipIdx j).foldl (fun (cs : Array Value) (c, j) => cs.setIfInBounds (off + j) c) cells).toList = cells.toList.take (off + j) ++ (vs ++ cells.toList.drop (off + j + vs.length)) := by
  intro vs
  induction vs with
  | nil => intro j cells h; simp
  | cons v vs ih =>
    intro j cells h
    simp only [List.length_cons] at h
    simp only [List.zipIdx_cons, List.foldl_cons]
    rw [ih (j + 1) _ (by simp; omega)]
    have h1 : off + j < cells.toList.length := by simp; omega
    simp only [Array.toList_setIfInBounds, List.length_cons]
    apply List.ext_getElem?
    intro i
    have e1 : off + (j + 1) = off + j + 1 := by omega
    rw [e1]
    by_cases h2 : i < off + j
    · simp [List.getElem?_append, List.getElem?_take, List.getElem?_set, h2, h1, show i < off + j + 1 by omega, show ¬ off + j = i by omega]
      simp at h1
      simp [show i < min (off + j + 1) cells.size by omega, show i < min (off + j) cells.size by omega]
    · by_cases h3 : i = off + j
      · subst h3
        simp at h1
        simp [List.getElem?_append, List.getElem?_take, List.getElem?_set, h1, show off + j < min (off + j + 1) cells.size by omega, show ¬ off + j < min (off + j) cells.size by omega, show min (off + j) cells.size = off + j by omega]
      · simp at h1
        have a1 : ¬ i < min (off + j + 1) cells.size := by omega
        have a2 : ¬ i < min (off + j) cells.size := by omega
        have a3 : min (off + j + 1) cells.size = off + j + 1 := by omega
        have a4 : min (off + j) cells.size = off + j := by omega
        have b1 : ¬ i < off + j + 1 := by omega
        simp only [List.getElem?_append, List.length_take, List.length_set, Array.length_toList, a1, a2, a3, a4, b1, h2, if_false]
        rw [show i - (off + j) = (i - (off + j + 1)) + 1 by omega]
        simp only [List.getElem?_cons_succ, List.getElem?_append, List.getElem?_drop, List.length_cons]
        by_cases h4 : i - (off + j + 1) < vs.length
        · simp [h4]
        · simp only [h4, if_false, show ¬ (i - (off + j + 1) + 1 < vs.length + 1) by omega]
          rw [List.getElem?_set_ne (by omega)]
          congr 1
          omega
theorem run_places : ∀ (fs : List Field) (l : List (Nat × Nat)), fldsOf P fs = some l →
    (fs.mapM (fun f => do pure (f.offset, ← sizeOf f.type)) : Sem (List (Nat × Nat))).run P w = .ok l w := by
  intro fs
  induction fs with
  | nil => intro l e; cases e; rfl
  | cons f fs ih =>
    intro l e
    simp only [fldsOf] at e
    obtain ⟨i, hi, e⟩ := ob_eq_some e
    obtain ⟨l', hl, e⟩ := ob_eq_some e
    cases e
    have := ih l' hl
    simp only [List.mapM_cons, Sem.run_bind, sizeOf, typeInfo, run_program, Result.andThen_ok, hi, Sem.run_pure, this] at this ⊢
theorem fill_sound (h : Sim P X β0 w0 S0 st a w S β) {fl : List (Nat × Nat)} {pl : Array (Nat × Nat)} (hpl : ∀ (f : Nat) (q : Nat × Nat), fl[f]? = some q → pl[f]? = some q) :
    ∀ (ps : List (Nat × Operand)) (cs rs : List TV) (cells : Array Value), fillTV fl st ps cs = some rs → cs.length = cells.size →
      (∀ i (hi : i < cs.length) (hj : i < cells.size), RV P w S β cs[i] cells[i]) → okL (· ∈ st.ks) cs →
      ∃ out : Array Value, Instr.fill (pl[·]?) cells (ps.map fun (i, x) => (i, a.eval x)) = some out ∧ rs.length = out.size ∧
        (∀ i (hi : i < rs.length) (hj : i < out.size), RV P w S β rs[i] out[i]) ∧ okL (· ∈ st.ks) rs := by
  intro ps
  induction ps with
  | nil =>
    intro cs rs cells e hl hv ho
    cases e
    exact ⟨cells, rfl, hl, hv, ho⟩
  | cons p ps ih =>
    intro cs rs cells e hl hv ho
    obtain ⟨f, x⟩ := p
    simp only [fillTV] at e
    obtain ⟨⟨off, sz⟩, hq, e⟩ := ob_eq_some e
    obtain ⟨new, hn, e⟩ := ob_eq_some e
    obtain ⟨_, hc, e⟩ := ob_eq_some e
    obtain ⟨h1, h2⟩ := chk2 hc
    have h2 := of_decide_eq_true h2
    have h1 : new.length = sz := by simpa using h1
    obtain ⟨g1, g2, g3⟩ := cellsOf_sound (evc_sound h x).1 (evc_sound h x).2 hn
    let cells' := (a.eval x).cells.zipIdx.foldl (fun (cs : Array Value) (c, j) => cs.setIfInBounds (off + j) c) cells
    have hlist : cells'.toList = cells.toList.take off ++ ((a.eval x).cells.toList ++ cells.toList.drop (off + (a.eval x).cells.toList.length)) := by
      have := foldl_set (off := off) (a.eval x).cells.toList 0 cells (by simp only [Array.length_toList]; simp only at h2; omega)
      rw [Nat.add_zero] at this
      rw [← this]
      simp [cells', ← Array.foldl_toList]
    simp only at h2
    have hsz : cells'.size = cells.size := by
      have := congrArg List.length hlist
      simp at this
      omega
    have hlen : (setSeg off new cs).length = cells'.size := by
      simp [setSeg]; omega
    have hvals : ∀ i (hi : i < (setSeg off new cs).length) (hj : i < cells'.size), RV P w S β (setSeg off new cs)[i] cells'[i] := by
      intro i hi hj
      have e1 : cells'[i] = cells'.toList[i]'(by simpa using hj) := by simp
      rw [e1]
      have e2 : cells'.toList[i]'(by simpa using hj) = (cells.toList.take off ++ ((a.eval x).cells.toList ++ cells.toList.drop (off + (a.eval x).cells.toList.length)))[i]'(by rw [← hlist]; simpa using hj) := by
        congr 1
      rw [e2]
      simp only [setSeg, List.getElem_append]
      have l1 : (cs.take off).length = off := by simp; omega
      have l2 : (cells.toList.take off).length = off := by simp; omega
      simp only [l1, l2]
      split
      · rename_i hlt
        simp only [List.getElem_take, Array.getElem_toList]
        exact hv i (by omega) (by omega)
      · rename_i hge
        simp only [Array.length_toList, ← g1]
        split
        · rename_i hlt
          simp only [Array.getElem_toList]
          exact g2 (i - off) hlt (by omega)
        · rename_i hge2
          simp only [List.getElem_drop, Array.getElem_toList]
          have hi' : i < cs.length := by omega
          have key := hv i hi' (by omega)
          have e3 : off + new.length + (i - off - new.length) = i := by omega
          simpa only [e3] using key
    have hok : okL (· ∈ st.ks) (setSeg off new cs) := by
      rw [okL_iff] at *
      intro z hz
      simp only [setSeg, List.mem_append] at hz
      rcases hz with hz | hz | hz
      · exact ho z (List.mem_of_mem_take hz)
      · exact g3 z hz
      · exact ho z (List.mem_of_mem_drop hz)
    obtain ⟨out, hout, r1, r2, r3⟩ := ih _ rs cells' e hlen hvals hok
    refine ⟨out, ?_, r1, r2, r3⟩
    simp only [List.map_cons, Instr.fill, hpl f _ hq]
    rw [if_neg]
    · exact hout
    · simp only [Bool.or_eq_true, decide_eq_true_eq, not_or, ne_eq, Decidable.not_not, Nat.not_lt]
      exact ⟨by omega, by omega⟩
theorem leff_val (h : Sim P X β0 w0 S0 st a w S β) {o : Oper} {x : TV} (e : leff P st o.op = some (.val x)) :
    ∃ u, (execOp a.eval o).run P w = .ok (.value u) w ∧ RV P w S β x u ∧ x.ok (· ∈ st.ks) := by
  have E := evc_sound h
  have fin : ∀ {s : Sem Value} {y : TV}, Gives P s w S β y (· ∈ st.ks) → (do pure (Next.value (← s)) : Sem Next) = execOp a.eval o → y = x →
      ∃ u, (execOp a.eval o).run P w = .ok (.value u) w ∧ RV P w S β x u ∧ x.ok (· ∈ st.ks) := by
    rintro s y ⟨u, hu, h1, h2⟩ he rfl
    refine ⟨u, ?_, h1, h2⟩
    rw [← he]
    simp [hu]
  obtain ⟨dst, op, ty, pos, after, guard⟩ := o
  simp only at e
  cases op <;> simp only [leff] at e <;> try (cases e; done)
  case move x => cases e; exact ⟨_, rfl, (E x).1, (E x).2⟩
  case assign x => cases e; exact ⟨_, rfl, (E x).1, (E x).2⟩
  case pick c x y =>
    obtain ⟨t, ht, e⟩ := ob_eq_some e
    cases e
    have hc := boolOfTV_sound (E c).1 ht
    cases t
    · exact ⟨a.eval y, by simp [execOp, hc, asBool], (E y).1, (E y).2⟩
    · exact ⟨a.eval x, by simp [execOp, hc, asBool], (E x).1, (E x).2⟩
  case alloc t => obtain ⟨_, _, e⟩ := Option.map_eq_some_iff.1 e; cases e
  case box t x => obtain ⟨_, _, e⟩ := Option.map_eq_some_iff.1 e; cases e
  case load t x =>
    obtain ⟨ag, hag, e⟩ := ob_eq_some e
    obtain ⟨y, hy, e⟩ := Option.map_eq_some_iff.1 e
    cases e
    exact fin (loadAt_sound h hag (E x).1 hy) rfl rfl
  case binOp op t x y ty' =>
    obtain ⟨z, hz, e⟩ := Option.map_eq_some_iff.1 e
    cases e
    exact fin (binAt_sound (E x).1 (E y).1 hz) rfl rfl
  case unOp op t x =>
    obtain ⟨z, hz, e⟩ := Option.map_eq_some_iff.1 e
    cases e
    exact fin (unAt_sound (E x).1 hz) rfl rfl
  case makeFunc fn first cap =>
    cases fn <;> simp only [leff] at e <;> try (cases e; done)
    rename_i f
    obtain ⟨_, h1, e⟩ := ob_eq_some e
    cases e
    have h1 := chk_eq_some h1
    have h1 : first = #[] := by simpa using h1
    subst h1
    refine ⟨.func (.func f) #[] (cap.map a.eval), by simp [execOp, Instr.makeFunc], .clo (by simp) ?_, ?_⟩
    · intro i hi hj
      simp only [List.getElem_map, Array.getElem_map, Array.getElem_toList]
      exact (E _).1
    · show okL _ _
      rw [okL_iff]
      intro z hz
      obtain ⟨q, _, rfl⟩ := List.mem_map.1 hz
      exact (E q).2
  case slice t x lo hi mx =>
    cases mx <;> simp only [leff] at e <;> try (cases e; done)
    obtain ⟨z, hz, e⟩ := Option.map_eq_some_iff.1 e
    cases e
    exact fin (sliceAt_sound h (E x).1 hz) rfl rfl
  case fieldAddr s x f =>
    obtain ⟨q, hq, e⟩ := ob_eq_some e
    obtain ⟨z, hz, e⟩ := Option.map_eq_some_iff.1 e
    cases e
    exact fin (fieldAt_sound (E x).1 (E x).2 hq hz) rfl rfl
  case indexAddr t x i =>
    obtain ⟨el, hel, e⟩ := ob_eq_some e
    obtain ⟨_, hz0, e⟩ := ob_eq_some e
    obtain ⟨n, hn, e⟩ := ob_eq_some e
    obtain ⟨z, hz, e⟩ := Option.map_eq_some_iff.1 e
    cases e
    obtain ⟨k, _, hi⟩ := intOfTV_sound (E i).1 hn
    have := indexAt_sound (k := k) h (E x).1 hel hz (E x).2 (of_decide_eq_true (chk_eq_some hz0))
    rw [← hi] at this
    exact fin this rfl rfl
  case extract x i =>
    obtain ⟨z, hz, e⟩ := Option.map_eq_some_iff.1 e
    cases e
    unfold extractAt at hz
    split at hz
    · rename_i vs heq
      have hx := (E x).1
      have hok := (E x).2
      rw [heq] at hx hok
      generalize hv : a.eval x = v at hx
      cases hx with
      | tup hl hh =>
        rename_i us
        obtain ⟨hi, rfl⟩ := List.getElem?_eq_some_iff.1 hz
        have hi2 : i < us.size := by omega
        refine ⟨us[i], ?_, hh i hi hi2, okL_get hok i hi⟩
        simp [execOp, Instr.extract, hv, hi2]
    · cases hz
  case call c =>
    obtain ⟨callee, args, argTypes⟩ := c
    simp only at e
    cases callee <;> simp only at e <;> try (cases e; done)
    rename_i b
    cases b <;> simp only [bleff] at e <;> try (cases e; done)
    case unsafeSliceData =>
      obtain ⟨x0, hx0, e⟩ := ob_eq_some e
      obtain ⟨_, hsz, e⟩ := ob_eq_some e
      obtain ⟨z, hz, e⟩ := Option.map_eq_some_iff.1 e
      cases e
      have hx := (E x0).1
      have ho := (E x0).2
      unfold sliceDataAt at hz
      split at hz
      · rename_i k heq
        obtain ⟨o, hk, hz⟩ := ob_eq_some hz
        obtain ⟨⟨m, es⟩, he, hz⟩ := ob_eq_some hz
        obtain ⟨_, h1, hz⟩ := ob_eq_some hz
        cases hz
        have h1 := of_decide_eq_true (chk_eq_some h1)
        rw [heq] at hx ho
        generalize hv : a.eval x0 = v at hx
        obtain ⟨hov, _, _⟩ := h.objs k o hk
        obtain ⟨g1, g2, g3, _, _⟩ := arr_cells hov he
        obtain ⟨g4, g5⟩ := g1 h1
        cases hx with
        | own _ ad had =>
          have had := had g5
          subst had
          have hr := RV.ap (P := P) (w := w) (S := S) (β := β) k 0 0
          rw [Nat.zero_mul, Nat.zero_add] at hr
          refine ⟨_, ?_, hr, ho⟩
          have hx1 : args.map a.eval = #[.slice (some ⟨(β k).blk, 0, none⟩) (β k).len (β k).cap] := by
            have h1 : args.size = 1 := by simpa using chk_eq_some hsz
            apply Array.ext
            · simpa using h1
            · intro i hi hj
              have : i = 0 := by simpa using hj
              subst this
              obtain ⟨hi0, h0⟩ := Array.getElem?_eq_some_iff.1 hx0
              simp [h0, hv]
          simp [execOp, resolve, invoke, hx1, builtin, Lib.run_unsafeSliceData_row w _ _ _ _ _ (show (β k).cap ≠ 0 by have h1 : 0 < es.length := h1; omega)]
      · cases hz
    obtain ⟨x0, hx0, e⟩ := ob_eq_some e
    obtain ⟨t0, ht0, e⟩ := ob_eq_some e
    obtain ⟨n, hn, e⟩ := ob_eq_some e
    cases e
    have hlen : ∀ v consts, a.eval x0 = v → (builtin .len argTypes ty consts (args.map a.eval)).run P w = .ok (.value (.int .i64 n)) w := by
      intro v consts hv
      have hr := (E x0).1
      rw [hv] at hr
      have hx : (args.map a.eval)[0]? = some v := by simp [hx0, hv]
      rcases lenOf_sound h hr hn with ⟨s, rfl, rfl, hu⟩ | ⟨A, cap, el, rfl, hu⟩
      · simp [builtin, Builtin.len_, ht0, hx, underlying, hu, goInt]
      · simp [builtin, Builtin.len_, ht0, hx, underlying, hu, goInt]
    exact ⟨.int .i64 n, by simpa [execOp, resolve, invoke] using hlen _ _ rfl, .d (.i _ _), trivial⟩
  case index t x i =>
    obtain ⟨_, h1, e⟩ := ob_eq_some e
    obtain ⟨n, hn, e⟩ := ob_eq_some e
    obtain ⟨z, hz, e⟩ := Option.map_eq_some_iff.1 e
    cases e
    unfold strIndex at hz
    split at hz
    · rename_i s heq
      obtain ⟨_, h2, hz⟩ := ob_eq_some hz
      obtain ⟨b, hb, hz⟩ := ob_eq_some hz
      cases hz
      have hx := (E x).1
      rw [heq] at hx
      have hx := rv_str hx
      obtain ⟨k, _, hi⟩ := intOfTV_sound (E i).1 hn
      have h2 := of_decide_eq_true (chk_eq_some h2)
      refine ⟨_, ?_, .d (.i _ _), trivial⟩
      simp [execOp, Instr.index, hx, hi, asIntOf, underlying, tyStr_eq (chk_eq_some h1), h2, hb]
    · cases hz
  case nilCheck x =>
    obtain ⟨z, hz, e⟩ := Option.map_eq_some_iff.1 e
    cases e
    have hx := (E x).1
    have ho := (E x).2
    unfold nilAt at hz
    split at hz
    · rename_i k o heq
      cases hz
      rw [heq] at hx ho
      generalize hv : a.eval x = v at hx
      cases hx
      exact ⟨_, by simp [execOp, hv], .ptr _ _, ho⟩
    · rename_i k i f heq
      cases hz
      rw [heq] at hx ho
      generalize hv : a.eval x = v at hx
      cases hx
      exact ⟨_, by simp [execOp, hv], .ap _ _ _, ho⟩
    · rename_i cs heq
      cases hz
      rw [heq] at hx ho
      generalize hv : a.eval x = v at hx
      cases hx with
      | rp h1 h2 h3 => exact ⟨_, by simp [execOp, hv], .rp h1 h2 h3, ho⟩
    · cases hz
  case convert src dst x =>
   split at e
   case h_2 hn =>
    obtain ⟨z, hz, e⟩ := Option.map_eq_some_iff.1 e
    cases e
    have hx := (E x).1
    have ho := (E x).2
    unfold convPtr at hz
    split at hz
    · rename_i k off heq
      obtain ⟨_, h1, hz⟩ := ob_eq_some hz
      cases hz
      rw [heq] at hx ho
      generalize hv : a.eval x = v at hx
      cases hx
      have h1 := chk_eq_some h1
      rw [Bool.or_eq_true] at h1
      refine ⟨.pointer (some ⟨(β k).blk, off, none⟩), ?_, .ptr _ _, ho⟩
      have hrun : (convert src dst (.pointer (some ⟨(β k).blk, off, none⟩))).run P w = .ok (.pointer (some ⟨(β k).blk, off, none⟩)) w := by
        rcases h1 with h1 | h1
        · unfold toUns at h1
          split at h1
          · rename_i t cs tg htp hlk
            simp only [Bool.and_eq_true, decide_eq_true_eq] at h1
            obtain ⟨h2, h3, h4⟩ := h1
            obtain ⟨q1, i, q2⟩ := tyPtr_eq htp
            have hd : P.underlying dst = some .unsafePointer := by
              unfold tyUns at h3
              split at h3
              · assumption
              · cases h3
            obtain ⟨hov, _, _⟩ := h.objs k _ hlk
            cases hov with
            | box hlv hb hl hr ht =>
              exact Lib.run_to_unsafe w ⟨(β k).blk, off, none⟩ q1 hd q2 (by simpa [tySize, q2] using h2) (by simp [World.shape?, hb]; exact ⟨rfl, rfl⟩) (by show off < _; omega)
          · cases h1
        · unfold fromUns at h1
          split at h1
          · rename_i t cs tg htp hlk
            simp only [Bool.and_eq_true] at h1
            obtain ⟨h3, h4⟩ := h1
            obtain ⟨q1, i, q2⟩ := tyPtr_eq htp
            have hd : P.underlying src = some .unsafePointer := by
              unfold tyUns at h3
              split at h3
              · assumption
              · cases h3
            obtain ⟨hov, _, _⟩ := h.objs k _ hlk
            cases hov with
            | box hlv hb hl hr ht =>
              have e1 := ht _ rfl
              subst e1
              exact Lib.run_from_unsafe w ⟨(β k).blk, off, none⟩ hd q1 q2 (by simp [World.shape?, hb]; exact ⟨rfl, rfl⟩) (by rw [← hl]; exact h4)
          · cases h1
      simp [execOp, hv, hrun]
    · cases hz
   case h_1 k hk =>
    obtain ⟨k0, h0, e⟩ := ob_eq_some e
    obtain ⟨z, hz, e⟩ := Option.map_eq_some_iff.1 e
    cases e
    unfold convAt at hz
    split at hz
    · rename_i j n heq
      cases hz
      have hx := (E x).1
      rw [heq] at hx
      have hx := rv_int hx
      refine ⟨_, ?_, .d (.i _ _), trivial⟩
      simp [execOp, convert, hx, underlying, tyInt_eq h0, tyInt_eq hk, Conv.intToInt]
    · cases hz
  case build t ps =>
    obtain ⟨fl, hfl, e⟩ := ob_eq_some e
    obtain ⟨z, hz, e⟩ := ob_eq_some e
    obtain ⟨cs, hcs, e⟩ := Option.map_eq_some_iff.1 e
    cases e
    unfold tyZero at hz
    obtain ⟨zv, hzv, rfl⟩ := Option.map_eq_some_iff.1 hz
    obtain ⟨i, hi, hiz⟩ := Option.bind_eq_some_iff.1 hzv
    unfold tyFlds at hfl
    cases hu : P.underlying t with
    | none => simp [hu] at hfl
    | some dd =>
      rw [hu] at hfl
      cases dd <;> first | (simp at hfl; done) | skip
      rename_i fs
      have hpl := run_places (P := P) (w := w) fs.toList fl hfl
      obtain ⟨out, hout, r1, r2, r3⟩ := fill_sound h (fl := fl) (pl := fl.toArray) (fun f q hq => by simpa using hq) ps.toList _ cs zv.cells hcs (by simp)
        (fun i hi hj => by simp only [List.getElem_map, Array.getElem_toList]; exact valTV_sound _)
        (by rw [okL_iff]; intro z hz; obtain ⟨q, _, rfl⟩ := List.mem_map.1 hz; exact valTV_ok q _)
      refine fin (s := Instr.build t (ps.map fun (i, x) => (i, a.eval x))) ⟨.agg out, ?_, .agg r1 r2, r3⟩ rfl rfl
      unfold Instr.build
      simp only [Sem.run_bind, zeroValue, typeInfo, run_program, Result.andThen_ok, hi, Sem.run_pure, hiz, underlying, hu, Array.mapM_eq_mapM_toList, Sem.run_map]
      simp only [hpl, Result.andThen_ok, Array.toList_map]
      have hout' : Instr.fill (fun x => fl.toArray[x]?) zv.cells (List.map (fun x => (x.1, a.eval x.2)) ps.toList) = some out := hout
      rw [hout']
      rfl
theorem tyTag_eq {e t : TypeId} (h : tyTag P e = some t) : e = t := by
  unfold tyTag at h
  split at h
  · split at h
    · split at h
      · split at h
        · exact Option.some.inj h
        · cases h
      · cases h
    · cases h
  · cases h
theorem leff_box (h : Sim P X β0 w0 S0 st a w S β) {o : Oper} {cs : List TV} {tg : Option TypeId} (e : leff P st o.op = some (.box cs tg)) :
    ∃ vs el, (execOp a.eval o).run P w = .ok (.value (.pointer (some ⟨w.heap.size, 0, none⟩))) (w.alloc (.cells vs el)) ∧ cs.length = vs.size ∧
      (∀ i (hi : i < cs.length) (hj : i < vs.size), RV P w S β cs[i] vs[i]) ∧ okL (· ∈ st.ks) cs ∧ (∀ t, tg = some t → el = t) := by
  have E := evc_sound h
  obtain ⟨dst, op, ty, pos, after, guard⟩ := o
  simp only at e
  cases op <;> simp only [leff] at e <;> try (cases e; done)
  case alloc t =>
    obtain ⟨z, hz, e⟩ := Option.map_eq_some_iff.1 e
    cases e
    unfold tyZero at hz
    obtain ⟨zv, hzv, rfl⟩ := Option.map_eq_some_iff.1 hz
    obtain ⟨i, hi, hiz⟩ := Option.bind_eq_some_iff.1 hzv
    refine ⟨zv.cells, t, ?_, by simp, ?_, ?_, fun t' ht => tyTag_eq ht⟩
    · simp [execOp, Instr.alloc, zeroValue, typeInfo, hi, hiz, newVar, newRow]
    · intro i hi hj
      simp only [List.getElem_map, Array.getElem_toList]
      exact valTV_sound _
    · rw [okL_iff]
      intro z hz
      obtain ⟨q, _, rfl⟩ := List.mem_map.1 hz
      exact valTV_ok q _
  case box t x =>
    obtain ⟨z, hz, e⟩ := Option.map_eq_some_iff.1 e
    cases e
    obtain ⟨h1, h2, h3⟩ := cellsOf_sound (E x).1 (E x).2 hz
    exact ⟨(a.eval x).cells, t, by simp [execOp, Instr.box, newVar, newRow], h1, h2, h3, fun t' ht => by cases ht⟩
  all_goals first
    | (obtain ⟨_, _, e⟩ := Option.map_eq_some_iff.1 e; cases e; done)
    | (obtain ⟨_, _, e⟩ := ob_eq_some e; cases e; done)
    | (obtain ⟨_, _, e⟩ := ob_eq_some e; obtain ⟨_, _, e⟩ := Option.map_eq_some_iff.1 e; cases e; done)
    | (obtain ⟨_, _, e⟩ := ob_eq_some e; obtain ⟨_, _, e⟩ := ob_eq_some e; obtain ⟨_, _, e⟩ := ob_eq_some e; obtain ⟨_, _, e⟩ := Option.map_eq_some_iff.1 e; cases e; done)
    | skip
  case makeFunc fn first cap =>
    cases fn <;> simp only [leff] at e <;> try (cases e; done)
    obtain ⟨_, _, e⟩ := ob_eq_some e; cases e
  case slice t x lo hi mx =>
    cases mx <;> simp only [leff] at e <;> try (cases e; done)
    obtain ⟨_, _, e⟩ := Option.map_eq_some_iff.1 e; cases e
  case call c =>
    obtain ⟨callee, args, argTypes⟩ := c
    simp only at e
    cases callee <;> simp only at e <;> try (cases e; done)
    rename_i b
    cases b <;> simp only [bleff] at e <;> try (cases e; done)
    case unsafeSliceData =>
      obtain ⟨x0, hx0, e⟩ := ob_eq_some e
      obtain ⟨_, hsz, e⟩ := ob_eq_some e
      obtain ⟨z, hz, e⟩ := Option.map_eq_some_iff.1 e
      cases e
    obtain ⟨x0, hx0, e⟩ := ob_eq_some e
    obtain ⟨t0, ht0, e⟩ := ob_eq_some e
    obtain ⟨n, hn, e⟩ := ob_eq_some e
    cases e
  case convert src d x =>
    split at e
    · obtain ⟨_, _, e⟩ := ob_eq_some e; obtain ⟨_, _, e⟩ := Option.map_eq_some_iff.1 e; cases e
    · obtain ⟨_, _, e⟩ := Option.map_eq_some_iff.1 e; cases e
  all_goals
    obtain ⟨_, _, e⟩ := ob_eq_some e; obtain ⟨_, _, e⟩ := ob_eq_some e; obtain ⟨_, _, e⟩ := Option.map_eq_some_iff.1 e; cases e
end
end Go.Av
end
section
set_option linter.unusedSectionVars false
namespace Go.Av
section
variable [Known] {P : Program} {X : Nat → Prop} {β0 : Places} {w0 w w' : World} {S0 S S' : Stable} {st st' : St} {a : Act} {β β' : Places}
theorem TV.ok_mono {p q : Nat → Prop} (h : ∀ k, p k → q k) : ∀ {x : TV}, x.ok p → x.ok q := by
  intro x
  have key : ∀ n : Nat, (∀ x : TV, SizeOf.sizeOf x < n → x.ok p → x.ok q) ∧ (∀ l : List TV, SizeOf.sizeOf l < n → okL p l → okL q l) := by
    intro n
    induction n with
    | zero => exact ⟨fun x hx => absurd hx (Nat.not_lt_zero _), fun x hx => absurd hx (Nat.not_lt_zero _)⟩
    | succ n ih =>
      refine ⟨fun x hx ho => ?_, fun l hl ho => ?_⟩
      · cases x <;> simp only [TV.ok] at ho ⊢ <;> first
          | trivial
          | exact h _ ho
          | (refine ih.2 _ ?_ ho; simp at hx; omega)
      · cases l with
        | nil => trivial
        | cons y l =>
          simp at hl
          exact ⟨ih.1 y (by omega) ho.1, ih.2 l (by omega) ho.2⟩
  exact (key (SizeOf.sizeOf x + 1)).1 x (by omega)
theorem okL_mono {p q : Nat → Prop} (h : ∀ k, p k → q k) {l : List TV} (ho : okL p l) : okL q l := by
  rw [okL_iff] at *
  exact fun x hx => TV.ok_mono h (ho x hx)
theorem okO_mono {p q : Nat → Prop} (h : ∀ k, p k → q k) {o : Obj} (ho : o.okO p) : o.okO q := by
  cases o with
  | box cs ty => exact okL_mono h ho
  | arr => trivial
  | fz => trivial
theorem ArrOk.keeps {vs : Array Value} {m : Nat} {es : List (List T)} (hk : Keeps w S w' S') (h : ArrOk w S vs m es) : ArrOk w' S' vs m es :=
  ⟨h.hm, fun i j hi hj => let ⟨v, hv, hr⟩ := h.cell i j hi hj; ⟨v, hv, hr.keeps hk⟩⟩
theorem OV.keeps {k : Nat} {o : Obj} (hk : Keeps w S w' S') (hb : (β k).live = true → w'.heap[(β k).blk]? = w.heap[(β k).blk]?) (he : β' k = β k) (ho : o.okO (fun j => β' j = β j)) (h : OV P w S β k o) : OV P w' S' β' k o := by
  cases h with
  | box hv hb' hl hr ht =>
    refine .box (by rw [he]; exact hv) (by rw [he, hb hv]; exact hb') hl (fun i hi hj => (hr i hi hj).keeps hk (okL_get ho i hi)) ht
  | arr hv hb' hA hm h0 hlen hcap hmax hsz h ht =>
    exact .arr (by rw [he]; exact hv) (by rw [he, hb hv]; exact hb') (by rw [he]; exact hA) (by rw [he]; exact hm) h0 (by rw [he]; exact hlen) (by rw [he]; exact hcap) (by rw [he]; exact hmax) (by rw [he]; exact hsz) (h.keeps hk) ht
  | arrN hv hm h0 hlen hcap => exact .arrN (by rw [he]; exact hv) (by rw [he]; exact hm) h0 (by rw [he]; exact hlen) (by rw [he]; exact hcap)
  | fz hv hb' hA hm h0 hlen hcap h hs hT =>
    exact .fz (by rw [he]; exact hv) (by rw [he, hb hv]; exact hb') (by rw [he]; exact hA) (by rw [he]; exact hm) h0 (by rw [he]; exact hlen) (by rw [he]; exact hcap) (h.keeps hk) (fun i j hi hj => by rw [he]; exact hk.sub _ _ (hs i j hi hj)) (fun q e => by rw [he]; exact hk.tok _ _ (hT q e))
  | fzN hv hlen => exact .fzN (by rw [he]; exact hv) (by rw [he]; exact hlen)
theorem OV.lt {k : Nat} {o : Obj} (h : OV P w S β k o) (hv : (β k).live = true) : (β k).blk < w.heap.size := by
  have : ∀ x, w.heap[(β k).blk]? = some x → (β k).blk < w.heap.size := fun x hx => (Array.getElem?_eq_some_iff.1 hx).1
  cases h with
  | box _ hb hl hv _ => exact this _ hb
  | arr _ hb => exact this _ hb
  | arrN hn => rw [hn] at hv; cases hv
  | fz _ hb => exact this _ hb
  | fzN hn => rw [hn] at hv; cases hv
theorem lk_cons_eq {α : Type} (k : Nat) (x : α) (l : List (Nat × α)) : lk k ((k, x) :: l) = some x := by simp [lk]
theorem lk_cons_ne {α : Type} {k j : Nat} (x : α) (l : List (Nat × α)) (h : k ≠ j) : lk k ((j, x) :: l) = lk k l := by
  have : (k == j) = false := by simpa using h
  simp [lk, this]
theorem Act.put_size (d : Option Nat) (v : Value) : (a.put d v).tmps.size = a.tmps.size := by cases d <;> simp [Act.put]
theorem Act.put_get {d : Nat} {v : Value} (h : d < a.tmps.size) : (a.put (some d) v).tmps[d]? = some v := by simp [Act.put, h]
theorem Act.put_get_ne {d i : Nat} {v : Value} (h : i ≠ d) : (a.put (some d) v).tmps[i]? = a.tmps[i]? := by simp [Act.put, Array.getElem?_setIfInBounds_ne (Ne.symm h)]
theorem Sim.put (h : Sim P X β0 w0 S0 st a w S β) {x : TV} {v : Value} {dst : Option Nat} (hr : RV P w S β x v) (ho : x.ok (· ∈ st.ks)) (e : put st x dst = some st') :
    Sim P X β0 w0 S0 st' (a.put dst v) w S β := by
  cases dst with
  | none => cases e; exact h
  | some d =>
    simp only [Av.put] at e
    obtain ⟨_, h1, e⟩ := ob_eq_some e
    cases e
    have hd := of_decide_eq_true (chk_eq_some h1)
    refine ⟨h.kn, h.dfr, by rw [Act.put_size]; exact h.size, ?_, h.objs, h.own, h.inj, h.sep, h.bnd, h.sub, h.new, h.below, h.n, h.fix, h.gh, h.tk⟩
    intro i tv hl
    by_cases hi : i = d
    · subst hi
      rw [lk_cons_eq] at hl
      cases hl
      exact ⟨v, Act.put_get (by rw [h.size]; exact hd), hr, ho⟩
    · rw [lk_cons_ne _ _ hi] at hl
      obtain ⟨u, hu, h2⟩ := h.tmps i tv hl
      exact ⟨u, by rw [Act.put_get_ne hi]; exact hu, h2⟩
theorem hasKey_iff {k : Nat} {l : List Nat} : hasKey k l = true ↔ k ∈ l := by
  induction l with
  | nil => simp [hasKey]
  | cons j l ih =>
    simp only [hasKey, List.mem_cons]
    by_cases h : k = j
    · simp [h]
    · simp [h, ih]
theorem keeps_alloc (o : Go.Obj) (hb : ∀ b x, S b x → b < w.heap.size) : Keeps w S (w.alloc o) S :=
  ⟨fun _ _ h => h, fun b x hs => World.cell?_alloc_lt w o ⟨b, x, none⟩ (hb b x hs), fun _ _ h => h⟩
def updP (β : Places) (k : Nat) (pl : Pl) : Places := fun j => if j = k then pl else β j
theorem updP_same (β : Places) (k : Nat) (pl : Pl) : updP β k pl k = pl := by simp [updP]
theorem updP_ne (β : Places) {k j : Nat} (pl : Pl) (h : j ≠ k) : updP β k pl j = β j := by simp [updP, h]
theorem Sim.newObj (h : Sim P X β0 w0 S0 st a w S β) {k : Nat} {pl : Pl} {ob : Obj} {o : Go.Obj} (hk : k ∉ st.ks) (hk40 : 40 ≤ k) (hpl : pl.blk = w.heap.size)
    (hov : OV P (w.alloc o) S (updP β k pl) k ob) (hok : ob.okO (· ∈ k :: st.ks)) :
    Sim P X β0 w0 S0 { st with o := (k, ob) :: st.o, ks := k :: st.ks } a (w.alloc o) S (updP β k pl) := by
  have hkeep := keeps_alloc (w := w) o h.bnd
  have hne : ∀ j, j ∈ st.ks → (updP β k pl) j = β j := by
    intro j hj
    exact updP_ne β pl (fun e => hk (e ▸ hj))
  have hold : ∀ j ob', lk j ((k, ob) :: st.o) = some ob' → j ≠ k → lk j st.o = some ob' := by
    intro j ob' hl hj
    rwa [lk_cons_ne _ _ hj] at hl
  have hblt : ∀ j ob', lk j st.o = some ob' → ∀ x, foot (β j) x → x < w.heap.size := fun j ob' hl x hx => by rw [hx.2]; exact (h.objs j ob' hl).1.lt hx.1
  have hself : (updP β k pl) k = pl := updP_same β k pl
  have hfk : ∀ x, foot pl x → x = w.heap.size := fun x hx => by rw [hx.2, hpl]
  refine ⟨h.kn.keeps hkeep, h.dfr, h.size, ?_, ?_, ?_, ?_, ?_, ?_, h.sub, h.new, ?_, ?_, ?_, ?_, h.tk.keep fun b hb => Go.RowKit.Below.heap_alloc _ _ _ (h.bnd b 0 hb)⟩
  · intro i tv hl
    obtain ⟨v, hv, hr, ho⟩ := h.tmps i tv hl
    exact ⟨v, hv, hr.keeps hkeep (TV.ok_mono hne ho), TV.ok_mono (fun j hj => List.mem_cons_of_mem _ hj) ho⟩
  · intro j ob' hl
    by_cases hj : j = k
    · subst hj
      rw [lk_cons_eq] at hl
      cases hl
      exact ⟨hov, hok, List.mem_cons_self ..⟩
    · obtain ⟨h1, h2, h3⟩ := h.objs j ob' (hold j ob' hl hj)
      refine ⟨h1.keeps hkeep (fun hv => Go.RowKit.Below.heap_alloc _ _ _ (h1.lt hv)) (hne j h3) (okO_mono hne h2), okO_mono (fun j hj => List.mem_cons_of_mem _ hj) h2, List.mem_cons_of_mem _ h3⟩
  · intro j ob' hl x hx
    by_cases hj : j = k
    · subst hj
      rw [hself] at hx
      rw [hfk x hx]
      exact .inr (.inr h.below.size)
    · have h1 := hold j ob' hl hj
      rw [hne j (h.objs j ob' h1).2.2] at hx
      exact h.own j ob' h1 x hx
  · intro j j' ob1 ob2 hl hl' hjj x hx hx'
    by_cases hj : j = k
    · subst hj
      have h2 := hold j' ob2 hl' (Ne.symm hjj)
      rw [hself] at hx
      rw [hne j' (h.objs j' ob2 h2).2.2] at hx'
      have := hblt j' ob2 h2 x hx'
      have := hfk x hx
      omega
    · have h1 := hold j ob1 hl hj
      rw [hne j (h.objs j ob1 h1).2.2] at hx
      by_cases hj' : j' = k
      · subst hj'
        rw [hself] at hx'
        have := hblt j ob1 h1 x hx
        have := hfk x hx'
        omega
      · have h2 := hold j' ob2 hl' hj'
        rw [hne j' (h.objs j' ob2 h2).2.2] at hx'
        exact h.inj j j' ob1 ob2 h1 h2 hjj x hx hx'
  · intro j ob' hl hw x hx z hs
    by_cases hj : j = k
    · subst hj
      rw [hself] at hx
      have := hfk x hx
      have := h.bnd _ _ hs
      omega
    · have h1 := hold j ob' hl hj
      rw [hne j (h.objs j ob' h1).2.2] at hx
      exact h.sep j ob' h1 hw x hx z hs
  · intro b x hs
    have := h.bnd b x hs
    simp only [World.size_alloc]
    omega
  · exact h.below.alloc h.below.size o
  · have := h.n
    simp only [World.size_alloc]
    omega
  · intro j hj
    rw [updP_ne β pl (by omega)]
    exact h.fix j hj
  · intro b z hz
    obtain ⟨h1, h2, h3, h4⟩ := h.gh b z hz
    have hb : b < w.heap.size := (Array.getElem?_eq_some_iff.1 h1).1
    refine ⟨by rw [Go.RowKit.Below.heap_alloc _ _ _ hb]; exact h1, h2, ?_, h4⟩
    intro j ob' hl hx
    by_cases hj : j = k
    · subst hj
      rw [hself] at hx
      have := hfk b hx
      omega
    · have h1 := hold j ob' hl hj
      rw [hne j (h.objs j ob' h1).2.2] at hx
      exact h3 j ob' h1 hx
theorem kOf_ge (d : Nat) : 40 ≤ kOf d := by unfold kOf; omega
theorem lop_sound (h : Sim P X β0 w0 S0 st a w S β) {o : Oper} (e : lop P st o = some st') :
    ∃ v w' β', (execOp a.eval o).run P w = .ok (.value v) w' ∧ Sim P X β0 w0 S0 st' (a.put o.dst v) w' S β' := by
  unfold lop at e
  obtain ⟨eff, he, e⟩ := ob_eq_some e
  cases eff with
  | val x =>
    obtain ⟨u, hu, hr, ho⟩ := leff_val h he
    exact ⟨u, w, β, hu, h.put hr ho e⟩
  | box cs ty =>
    obtain ⟨vs, el, hrun, hl, hv, hok, htg⟩ := leff_box h he
    simp only [effOn] at e
    obtain ⟨d, hd, e⟩ := ob_eq_some e
    obtain ⟨_, h1, e⟩ := ob_eq_some e
    obtain ⟨h2, h3⟩ := chk2 h1
    have h2 := of_decide_eq_true h2
    have h3 : kOf d ∉ st.ks := by
      intro hm
      rw [hasKey_iff.2 hm] at h3
      cases h3
    cases e
    let pl : Pl := ⟨true, w.heap.size, 0, 0, 0⟩
    have hne : ∀ j, j ∈ st.ks → (updP β (kOf d) pl) j = β j := by
      intro j hj
      exact updP_ne β pl (fun e => h3 (e ▸ hj))
    have hov : OV P (w.alloc (.cells vs el)) S (updP β (kOf d) pl) (kOf d) (.box cs ty) := by
      refine .box (vs := vs) (e := el) (by rw [updP_same]) ?_ hl (fun i hi hj => (hv i hi hj).keeps (keeps_alloc _ h.bnd) (TV.ok_mono hne (okL_get hok i hi))) htg
      rw [updP_same]
      show (w.heap.push _)[w.heap.size]? = _
      simp
    have hs := h.newObj (k := kOf d) (pl := pl) (ob := .box cs ty) (o := .cells vs el) h3 (kOf_ge d) rfl hov (okL_mono (fun j hj => List.mem_cons_of_mem _ hj) hok)
    refine ⟨_, _, updP β (kOf d) pl, hrun, ?_⟩
    rw [hd]
    have e2 : Av.put { st with o := (kOf d, .box cs ty) :: st.o, ks := kOf d :: st.ks } (.ptr (kOf d) 0) (some d) =
        some { t := (d, .ptr (kOf d) 0) :: st.t, o := (kOf d, .box cs ty) :: st.o, ks := kOf d :: st.ks, n := st.n, sz := st.sz, u := st.u, g := st.g } := by
      simp [Av.put, h2, chk, ob]
    refine hs.put (x := .ptr (kOf d) 0) ?_ (List.mem_cons_self ..) e2
    have := RV.ptr (P := P) (w := w.alloc (.cells vs el)) (S := S) (β := updP β (kOf d) pl) (kOf d) 0
    rw [updP_same] at this
    exact this
end
end Go.Av
end
section
namespace Go.Av
def DV.tv : DV → TV
  | .c t => .d t
  | .g cs => .agg (cs.map .d)
mutual
def TV.ren (f : Nat → Nat) : TV → TV
  | .unk => .unk
  | .d t => .d t
  | .nl => .nl
  | .agg cs => .agg (renL f cs)
  | .tup cs => .tup (renL f cs)
  | .ptr k off => .ptr (f k) off
  | .own k => .own (f k)
  | .ap k i g => .ap (f k) i g
  | .rp cs => .rp cs
  | .clo g cap => .clo g (renL f cap)
  | .fn g => .fn g
def renL (f : Nat → Nat) : List TV → List TV
  | [] => []
  | x :: xs => x.ren f :: renL f xs
end
def Obj.ren (f : Nat → Nat) : Obj → Obj
  | .box cs ty => .box (renL f cs) ty
  | .arr A m es => .arr A m es
  | .fz A m es => .fz A m es
mutual
def bareT : T → Prop
  | .b _ => True
  | .i _ _ => True
  | .s _ => True
  | .raw _ => True
  | .sl A es => (∀ q, A ≠ .tok q) ∧ bareEs es
def bareEs : List (List T) → Prop
  | [] => True
  | e :: es => bareCs e ∧ bareEs es
def bareCs : List T → Prop
  | [] => True
  | t :: ts => bareT t ∧ bareCs ts
end
mutual
def bareTV : TV → Prop
  | .unk => True
  | .d t => bareT t
  | .nl => True
  | .agg cs => bareL cs
  | .tup cs => bareL cs
  | .ptr _ _ => False
  | .own _ => False
  | .ap _ _ _ => False
  | .rp _ => False
  | .clo _ cap => bareL cap
  | .fn _ => False
def bareL : List TV → Prop
  | [] => True
  | x :: xs => bareTV x ∧ bareL xs
end
def preA (n : Nat) : Ann → Ann
  | .any => .any
  | .blk b t => .blk b t
  | .sat A => .sat A
  | .u8 e => .u8 e
  | .nilA => .nilA
  | .tok q => .tok (n :: q)
mutual
def T.pre (n : Nat) : T → T
  | .b x => .b x
  | .i k x => .i k x
  | .s x => .s x
  | .raw v => .raw v
  | .sl A es => .sl (preA n A) (preEs n es)
def preEs (n : Nat) : List (List T) → List (List T)
  | [] => []
  | e :: es => preCs n e :: preEs n es
def preCs (n : Nat) : List T → List T
  | [] => []
  | t :: ts => t.pre n :: preCs n ts
end
def tkF (z : Bool) (g : Option (Nat × Bool)) (t : T) : T := match z with
  | false => t
  | true => match g with
    | none => t.erase
    | some (n, _) => t.pre n
mutual
def TV.mapT (F : T → T) : TV → TV
  | .unk => .unk
  | .d t => .d (F t)
  | .nl => .nl
  | .agg cs => .agg (mapTL F cs)
  | .tup cs => .tup (mapTL F cs)
  | .ptr k o => .ptr k o
  | .own k => .own k
  | .ap k i f => .ap k i f
  | .rp cs => .rp cs
  | .clo f cap => .clo f cap
  | .fn g => .fn g
def mapTL (F : T → T) : List TV → List TV
  | [] => []
  | x :: xs => x.mapT F :: mapTL F xs
end
mutual
def flatTV : TV → Bool
  | .unk => true
  | .d _ => true
  | .nl => true
  | .agg cs => flatL cs
  | .tup cs => flatL cs
  | .ptr _ _ => false
  | .own _ => true
  | .ap _ _ _ => false
  | .rp _ => false
  | .clo _ _ => false
  | .fn _ => false
def flatL : List TV → Bool
  | [] => true
  | x :: xs => flatTV x && flatL xs
end
abbrev Objs := List (Nat × Obj)
def Obj.mapT (F : T → T) : Obj → Obj
  | .box cs ty => .box cs ty
  | .arr A m es => .arr A m (es.map (·.map F))
  | .fz A m es => .fz A m (es.map (·.map F))
def mapO (F : T → T) : Objs → Objs
  | [] => []
  | (k, o) :: l => (k, o.mapT F) :: mapO F l
def arrO : Objs → Bool
  | [] => true
  | (_, .arr _ _ _) :: l => arrO l
  | (_, .box _ _) :: _ => false
  | (_, .fz _ _ _) :: _ => false
def keysOf (o : Objs) : List Nat := o.map (·.1)
structure There [Known] (P : Program) (w : World) (S : Stable) (β : Places) (o : Objs) : Prop where
  objs : ∀ k ob, lk k o = some ob → OV P w S β k ob ∧ ob.okO (· ∈ keysOf o)
  inj : ∀ k k' ob ob', lk k o = some ob → lk k' o = some ob' → k ≠ k' → ∀ x, foot (β k) x → ¬ foot (β k') x
  sep : ∀ k ob, lk k o = some ob → ob.writable = true → ∀ x, foot (β k) x → ∀ z, ¬ S x z
def InX (o : Objs) (β : Places) (x : Nat) : Prop := ∃ k ob, lk k o = some ob ∧ ob.writable = true ∧ foot (β k) x
def TkX (z : Bool) (w : World) (S : Stable) (w' : World) (S' : Stable) : Prop := match z with
  | false => ∀ q b, S'.t q b ↔ S.t q b
  | true => TNew w.heap.size (fun q => q ≠ []) w' S'
structure ExtC (X : Nat → Prop) (w : World) (S : Stable) (w' : World) (S' : Stable) : Prop where
  sub : ∀ b o, S b o → S' b o
  new : ∀ b o, S' b o → S b o ∨ X b ∨ w.heap.size ≤ b
  bnd : ∀ b o, S' b o → b < w'.heap.size
  below : BelowX w.heap.size X w w'
structure ExtX (z : Bool) (X : Nat → Prop) (w : World) (S : Stable) (w' : World) (S' : Stable) : Prop extends ExtC X w S w' S' where
  tk : TkX z w S w' S'
def ACz [Known] (z : Bool) (P : Program) (f : FuncId) (ins : Objs) (args : List TV) (post : Nat → Nat → TV → Objs → Prop) : Prop :=
  ∀ (w : World) (S : Stable) (β : Places) (vs : Array Value), (z = true → ∀ q b, ¬ S.t q b) → (∀ b x, S b x → b < w.heap.size) → KOk w S → args.length = vs.size →
    (∀ i (hi : i < args.length) (hj : i < vs.size), RV P w S β args[i] vs[i]) → okL (· ∈ keysOf ins) args → There P w S β ins →
    Calls P f vs w fun e w' => ∃ r v S' β' outs, e = .returned v ∧ post w.heap.size w'.heap.size r outs ∧ RV P w' S' β' r v ∧ r.ok (· ∈ keysOf outs) ∧
      There P w' S' β' outs ∧ (∀ k, k < 40 → β' k = β k) ∧ (∀ k ob, lk k outs = some ob → ∀ x, foot (β' k) x → (k < 40 ∧ (ob.writable = true → InX ins β x)) ∨ InX ins β x ∨ w.heap.size ≤ x) ∧
      (∀ k ob, lk k outs = some ob → k < 40 → k ∈ keysOf ins) ∧ ExtX z (InX ins β) w S w' S'
abbrev AC [Known] := ACz false
def AP [Known] (P : Program) (f : FuncId) (args : List TV) (post : Nat → Nat → TV → Prop) : Prop := AC P f [] args fun n n' r o => o = [] ∧ post n n' r
def FnOf [Known] (P : Program) (f : FuncId) (g : List DV → Option DV) : Prop :=
  Plainly P f ∧ ∀ (args : List DV) (res : DV), g args = some res → AP P f (args.map DV.tv) fun _ _ r => r = res.tv
mutual
def eraseTV : TV → TV
  | .d t => .d t.erase
  | .agg cs => .agg (eraseL cs)
  | .unk => .unk
  | .nl => .nl
  | .tup cs => .tup cs
  | .ptr k i => .ptr k i
  | .own k => .own k
  | .ap k i f => .ap k i f
  | .rp cs => .rp cs
  | .clo f cap => .clo f cap
  | .fn g => .fn g
def eraseL : List TV → List TV
  | [] => []
  | x :: xs => eraseTV x :: eraseL xs
end
inductive Le [Known] (P : Program) (st : St) : TV → TV → Prop where
  | same (x : TV) : Le P st x x
  | d {t t' : T} (h : TLe t t') : Le P st (.d t) (.d t')
  | erase {t : T} : Le P st (.d t) (.d t.erase)
  | nl {A : Ann} : Le P st .nl (.d (.sl A []))
  | own {k m : Nat} {A : Ann} {es : List (List T)} {t : T} (h : lk k st.o = some (.fz A m es)) (ht : TLe (.sl A es) t) : Le P st (.own k) (.d t)
  | agg {cs ds : List TV} (hl : cs.length = ds.length) (h : ∀ i (hi : i < cs.length) (hj : i < ds.length), Le P st cs[i] ds[i]) : Le P st (.agg cs) (.agg ds)
  | clo {f : FuncId} {g : List DV → Option DV} (h : FnOf P f g) : Le P st (.clo f []) (.fn g)
  | er {x y : TV} (h : Le P st x y) : Le P st x (eraseTV y)
mutual
def ownKeys : TV → List Nat
  | .own k => [k]
  | .agg cs => ownKeysL cs
  | .d _ => []
  | .nl => []
  | .unk => []
  | .tup _ => []
  | .ptr _ _ => []
  | .ap _ _ _ => []
  | .rp _ => []
  | .clo _ _ => []
  | .fn _ => []
def ownKeysL : List TV → List Nat
  | [] => []
  | x :: xs => ownKeys x ++ ownKeysL xs
end
def frzAnn (b : Ann) : Option (Nat × Bool) → Ann
  | none => b
  | some (n, _) => .tok [n]
def frzObj (g : Option (Nat × Bool)) : Obj → Obj
  | .arr b m es => .fz (frzAnn b g) m es
  | .fz b m es => .fz b m es
  | .box cs ty => .box cs ty
def bumpO (g : Option (Nat × Bool)) : Obj → Option (Nat × Bool)
  | .arr _ _ _ => bump g
  | .fz _ _ _ => g
  | .box _ _ => g
def frz1 (st : St) (k : Nat) : Option Obj → St
  | some o => { t := st.t, o := (k, frzObj st.g o) :: st.o, ks := st.ks, n := st.n, sz := st.sz, u := st.u, g := bumpO st.g o }
  | none => st
def frz (st : St) : List Nat → St
  | [] => st
  | k :: l => frz (frz1 st k (lk k st.o)) l
def onSt (R : St → Prop) : Option St → Prop
  | some st => R st
  | none => False
def setN (st : St) (n : Nat) : St := { t := st.t, o := st.o, ks := st.ks, n := n, sz := st.sz, u := st.u, g := st.g }
def rk (ρ : Nat → Nat) (dst : Option Nat) (k : Nat) : Nat := bif decide (k < 40) then ρ k else 100000 * (dst.getD 0 + 1) + k
def renO (f : Nat → Nat) : Objs → Objs
  | [] => []
  | (k, o) :: l => (f k, o.ren f) :: renO f l
def delL (l : List Nat) : Objs → Objs
  | [] => []
  | (k, o) :: r => bif hasKey k l then delL l r else (k, o) :: delL l r
def newKs (ρ : Nat → Nat) (dst : Option Nat) : Objs → List Nat
  | [] => []
  | (k, _) :: l => bif decide (k < 40) then newKs ρ dst l else rk ρ dst k :: newKs ρ dst l
def noneIn (l : List Nat) : List Nat → Bool
  | [] => true
  | k :: r => !hasKey k l && noneIn l r
def merge (st : St) (ins : Objs) (ρ : Nat → Nat) (dst : Option Nat) (outs : Objs) (n : Nat) : St :=
  { t := st.t, o := renO (rk ρ dst) outs ++ delL ((keysOf ins).map ρ) st.o, ks := newKs ρ dst outs ++ st.ks, n := n, sz := st.sz, u := st.u, g := st.g }
def bumpZ (z : Bool) (st : St) : St := { t := st.t, o := st.o, ks := st.ks, n := st.n, sz := st.sz, u := st.u, g := bif z then bump st.g else st.g }
def acall [Known] (P : Program) (R : St → Prop) (st : St) (dst : Option Nat) (f : TV) (args : List TV) : Prop :=
  match f with
  | .clo g cap => Plainly P g ∧ ∃ (z : Bool) (fk : List Nat) (ins : Objs) (ρ : Nat → Nat) (args' : List TV) (post : Nat → Nat → TV → Objs → Prop), ACz z P g ins args' post ∧ (z = true → ins = [] ∧ bareL args') ∧
      (args ++ cap).length = args'.length ∧ (∀ i (hi : i < (args ++ cap).length) (hj : i < args'.length), Le P (frz st fk) (args ++ cap)[i] (args'[i].ren ρ)) ∧
      okL (· ∈ keysOf ins) args' ∧ (∀ k, k ∈ keysOf ins → k < 40) ∧ (∀ k ob, lk k ins = some ob → lk (ρ k) (frz st fk).o = some (ob.ren ρ) ∧ ob.okO (· ∈ keysOf ins)) ∧
      (∀ k k', k ∈ keysOf ins → k' ∈ keysOf ins → ρ k = ρ k' → k = k') ∧
      ∀ n1 n2 r outs, st.n ≤ n1 → n1 ≤ n2 → post n1 n2 r outs → r.ok (· ∈ keysOf outs) → (z = true → flatTV r = true ∧ arrO outs = true) ∧ noneIn st.ks (newKs ρ dst outs) = true ∧
        onSt R (put (merge (bumpZ z (frz st fk)) ins ρ dst (mapO (tkF z (frz st fk).g) outs) n2) ((r.mapT (tkF z (frz st fk).g)).ren (rk ρ dst)) dst)
  | .fn g => ∃ dvs res, g dvs = some res ∧ args.length = dvs.length ∧ (∀ i (hi : i < args.length) (hj : i < dvs.length), Le P st args[i] (dvs[i]).tv) ∧
      ∀ n2, st.n ≤ n2 → onSt R (put (setN st n2) res.tv dst)
  | _ => False
def single : TV → Bool
  | .unk => false
  | .agg _ => false
  | .tup _ => false
  | _ => true
def toTs (st : St) : List TV → Option (List T)
  | [] => some []
  | .d t :: l => ob (toTs st l) fun r => some (t :: r)
  | .nl :: l => ob (toTs st l) fun r => some (.sl .any [] :: r)
  | .own k :: l => match lk k st.o with
    | some (.fz b _ es) => ob (toTs st l) fun r => some (.sl b es :: r)
    | _ => none
  | _ :: _ => none
def storeBox (st : St) (k off sz : Nat) (new cs : List TV) (ty : Option TypeId) : Option St :=
  ob (chk (new.length == sz && (decide (off + new.length ≤ cs.length) && new.all single))) fun _ =>
    some { t := st.t, o := (k, .box (setSeg off new cs) ty) :: st.o, ks := st.ks, n := st.n, sz := st.sz, u := st.u, g := st.g }
def storeArr (st : St) (k i f sz : Nat) (new : List TV) (b : Ann) (m : Nat) (es : List (List T)) : Option St :=
  ob (es[i]?) fun e => ob (toTs st new) fun ts => ob (chk (ts.length == sz && decide (f + ts.length ≤ e.length))) fun _ =>
    some { t := st.t, o := (k, .arr b m (es.set i (setSeg f ts e))) :: st.o, ks := st.ks, n := st.n, sz := st.sz, u := st.u, g := st.g }
def storeObj (st : St) (k off i f sz : Nat) (new : List TV) (toArr : Bool) : Obj → Option St
  | .box cs ty => match toArr with
    | false => storeBox st k off sz new cs ty
    | true => none
  | .arr b m es => match toArr with
    | true => storeArr st k i f sz new b m es
    | false => none
  | .fz _ _ _ => none
def storeAt (st : St) (sz : Nat) (new : List TV) : TV → Option St
  | .ptr k off => ob (lk k st.o) fun o => storeObj st k off 0 0 sz new false o
  | .ap k i f => ob (lk k (frz st (ownKeysL new)).o) fun o => storeObj (frz st (ownKeysL new)) k 0 i f sz new true o
  | _ => none
def astore (P : Program) (st : St) (t : TypeId) (x v : Operand) : Option St := ob (cellsOf (evc st v)) fun new =>
  ob (chk (decide (0 < tySize P t))) fun _ => storeAt st (tySize P t) new (evc st x)
def gw : Bool → Bool → Bool
  | true, b => b
  | false, b => !b
def guardOf : TV → Bool → Option Bool
  | .d (.b b), w => some (gw w b)
  | .tup [], _ => some false
  | .tup (_ :: _), _ => none
  | .d (.i _ _), _ => none
  | .d (.s _), _ => none
  | .d (.sl _ _), _ => none
  | .d (.raw _), _ => none
  | .unk, _ => none
  | .nl, _ => none
  | .agg _, _ => none
  | .ptr _ _, _ => none
  | .own _, _ => none
  | .ap _ _ _, _ => none
  | .rp _, _ => none
  | .clo _ _, _ => none
  | .fn _, _ => none
def gval (ops : Array Oper) (st : St) (o : Oper) : Option Bool := match o.guard with
  | none => some true
  | some (j, want) => ob (ops[j]?) fun oj => ob oj.dst fun d => guardOf (evc st (.tmp d)) want
def bytesT (s : ByteArray) : List (List T) := s.data.toList.map fun b => [.i .u8 b.toNat]
def newArrB (st : St) (d blk : Nat) (es : List (List T)) (n : Nat) : Option St :=
  ob (chk (decide (d < st.sz) && !hasKey (kOf d) st.ks)) fun _ =>
    some { t := (d, .own (kOf d)) :: st.t, o := (kOf d, .arr (.blk blk) 1 es) :: st.o, ks := kOf d :: st.ks, n := n, sz := st.sz, u := st.u, g := st.g }
def abytes (P : Program) (R : St → Prop) (st : St) (dst : Option Nat) (src d : TypeId) : TV → Prop
  | .d (.s x) => tyStr P src = true ∧ ((tyElem P d).bind (tyInt P)) = some .u8 ∧ ((∀ blk, st.n ≤ blk → onSt R (put (setN st (blk + 1)) (.d (.sl (.blk blk) (bytesT x))) dst)) ∨
      (x.size ≤ maxLen ∧ ∃ dd, dst = some dd ∧ ∀ blk, st.n ≤ blk → onSt R (newArrB st dd blk (bytesT x) (blk + 1))))
  | _ => False
def astr (P : Program) (R : St → Prop) (st : St) (dst : Option Nat) (src d : TypeId) : TV → Prop
  | .d (.sl _ es) => tyStr P d = true ∧ ((tyElem P src).bind (tyInt P)) = some .u8 ∧ ∃ x, es = bytesT x ∧ onSt R (put st (.d (.s x)) dst)
  | .nl => tyStr P d = true ∧ ((tyElem P src).bind (tyInt P)) = some .u8 ∧ onSt R (put st (.d (.s ByteArray.empty)) dst)
  | .own k => tyStr P d = true ∧ ((tyElem P src).bind (tyInt P)) = some .u8 ∧ ∃ o m x, lk k st.o = some o ∧ arrEs o = some (m, bytesT x) ∧ onSt R (put st (.d (.s x)) dst)
  | _ => False
def valT : Value → Option T
  | .int k n => some (.i k n)
  | .bool b => some (.b b)
  | .string s => some (.s s)
  | .slice none 0 0 => some (.sl .any [])
  | _ => none
def valTs : List Value → Option (List T)
  | [] => some []
  | v :: vs => ob (valT v) fun t => ob (valTs vs) fun ts => some (t :: ts)
def tyZeroT (P : Program) (t : TypeId) : Option (List T) := ((P.info? t).bind (·.zero)).bind fun z => valTs z.cells.toList
def newArr (st : St) (d blk m : Nat) (es : List (List T)) (n : Nat) (el : TypeId) : Option St :=
  ob (chk (decide (d < st.sz) && !hasKey (kOf d) st.ks)) fun _ =>
    some { t := (d, .own (kOf d)) :: st.t, o := (kOf d, .arr (.blk blk (some el)) m es) :: st.o, ks := kOf d :: st.ks, n := n, sz := st.sz, u := st.u, g := st.g }
def amake (P : Program) (R : St → Prop) (st : St) (dst : Option Nat) (t : TypeId) (l c : TV) : Prop :=
  ∃ d el z n, dst = some d ∧ tyElem P t = some el ∧ tyZeroT P el = some z ∧ z.length = tySize P el ∧ 0 < tySize P el ∧ intOfTV l = some ((n : Nat) : Int) ∧ intOfTV c = some (n : Int) ∧
    tyBytes P el * n ≤ 281474976710656 ∧ n ≤ maxLen ∧ ∀ blk, st.n ≤ blk → onSt R (newArr st d blk (tySize P el) (List.replicate n z) (blk + 1) el)
def fillEs (st : St) (sz : Nat) : List (Nat × Operand) → List (List T) → Option (List (List T))
  | [], es => some es
  | (i, x) :: ps, es => ob (cellsOf (evc st x)) fun new => ob (toTs st new) fun ts => ob (chk (ts.length == sz && decide (i < es.length))) fun _ => fillEs st sz ps (es.set i ts)
def partKeys (st : St) : List (Nat × Operand) → List Nat
  | [] => []
  | (_, x) :: ps => (match cellsOf (evc st x) with | some new => ownKeysL new | none => []) ++ partKeys st ps
def abuild (P : Program) (R : St → Prop) (st : St) (dst : Option Nat) (t : TypeId) (len : Nat) (parts : List (Nat × Operand)) : Prop :=
  ∃ d el z es, dst = some d ∧ tyElem P t = some el ∧ tyZeroT P el = some z ∧ z.length = tySize P el ∧ 0 < tySize P el ∧ len * tySize P el ≤ 16777216 ∧
    fillEs (frz st (partKeys st parts)) (tySize P el) parts (List.replicate len z) = some es ∧ ∀ blk, st.n ≤ blk → onSt R (newArr (frz st (partKeys st parts)) d blk (tySize P el) es (blk + 1) el)
mutual
def TV.scr (k : Nat) : TV → TV
  | .unk => .unk
  | .d t => .d t
  | .nl => .nl
  | .agg cs => .agg (scrL k cs)
  | .tup cs => .tup (scrL k cs)
  | .ptr j off => bif k == j then .unk else .ptr j off
  | .own j => bif k == j then .unk else .own j
  | .ap j i g => bif k == j then .unk else .ap j i g
  | .rp cs => .rp cs
  | .clo g cap => .clo g (scrL k cap)
  | .fn g => .fn g
def scrL (k : Nat) : List TV → List TV
  | [] => []
  | x :: xs => x.scr k :: scrL k xs
end
def Obj.scr (k : Nat) : Obj → Obj
  | .box cs ty => .box (scrL k cs) ty
  | .arr A m es => .arr A m es
  | .fz A m es => .fz A m es
def scrT (k : Nat) : List (Nat × TV) → List (Nat × TV)
  | [] => []
  | (i, x) :: l => (i, x.scr k) :: scrT k l
def scrO (k : Nat) : Objs → Objs
  | [] => []
  | (i, x) :: l => bif k == i then scrO k l else (i, x.scr k) :: scrO k l
def readEs (st : St) (m : Nat) : TV → Option (List (List T))
  | .d (.sl _ es) => some es
  | .nl => some []
  | .own k => ob (lk k st.o) fun o => ob (arrEs o) fun x => ob (chk (x.1 == m || x.2.isEmpty)) fun _ => some x.2
  | .d (.s x) => some (bytesT x)
  | _ => none
def baseEs (st : St) (dst m : Nat) : TV → Option (Nat × Ann × List (List T))
  | .nl => ob (chk (!hasKey (kOf dst) st.ks)) fun _ => some (kOf dst, .nilA, [])
  | .own k => ob (lk k st.o) fun
    | .arr A m' es => ob (chk (m' == m && decide (40 ≤ k))) fun _ => some (k, A, es)
    | _ => none
  | _ => none
def apState (st : St) (d k blk m : Nat) (es : List (List T)) (n : Nat) (ty : Option TypeId) : Option St :=
  ob (chk (decide (d < st.sz))) fun _ =>
    some { t := (d, .own k) :: scrT k st.t, o := (k, .arr (.blk blk ty) m es) :: scrO k st.o, ks := k :: st.ks, n := n, sz := st.sz, u := st.u, g := st.g }
def aappend (P : Program) (R : St → Prop) (st : St) (dst : Option Nat) (t u : TypeId) (s x : TV) : Prop :=
  ∃ d el k A es new, dst = some d ∧ tyElem P t = some el ∧ (u = t ∨ (tyStr P u = true ∧ tyInt P el = some .u8)) ∧ 0 < tySize P el ∧ (tyZeroT P el).map List.length = some (tySize P el) ∧
    baseEs st d (tySize P el) s = some (k, A, es) ∧ readEs st (tySize P el) x = some new ∧ (∀ e ∈ new, e.length = tySize P el) ∧
    es.length + new.length ≤ maxLen ∧ (es.length + new.length) * tyBytes P el ≤ 140737488355328 ∧
    ∀ blk n, (A.has blk ∨ st.n ≤ blk) → (blk < n ∨ es ++ new = []) → st.n ≤ n → onSt R (apState st d k blk (tySize P el) (es ++ new) n (apTag el A))
def asliceOwn (P : Program) (R : St → Prop) (st : St) (dst : Option Nat) (t : TypeId) (lo hi : Option Operand) (k : Nat) : Prop :=
  ∃ A m es, lk k (frz st [k]).o = some (.fz A m es) ∧ onSt R (ob (sliceAt P (frz st [k]) t lo hi (.d (.sl A es))) fun x => put (frz st [k]) x dst)
def resl (P : Program) (st : St) (d : Nat) (t : TypeId) (h : Int) (k : Nat) (A : Ann) (m : Nat) (es : List (List T)) : Option St :=
  ob (tyElem P t) fun el => ob (chk ((decide (d < st.sz) && decide (40 ≤ k)) && (decide (0 < tySize P el) && (m == tySize P el && decide (0 ≤ h ∧ h ≤ es.length))))) fun _ =>
    some { t := (d, .own k) :: scrT k st.t, o := (k, .arr A m (es.take h.toNat)) :: scrO k st.o, ks := k :: st.ks, n := st.n, sz := st.sz, u := st.u, g := st.g }
def areslice [Known] (P : Program) (R : St → Prop) (st : St) (dst : Option Nat) (t : TypeId) (y : Operand) (k : Nat) : Prop :=
  ∃ A m es d h, dst = some d ∧ lk k st.o = some (.arr A m es) ∧ intOfTV (evc st y) = some h ∧ onSt R (resl P st d t h k A m es)
def azero (P : Program) (R : St → Prop) (st : St) (dst : Option Nat) (t : TypeId) (lo hi mx : Option Operand) (x : TV) : Prop :=
  ((tyElem P t).map fun el => decide (0 < tySize P el)) = some true ∧ lo = none ∧ (hi.bind fun h => intOfTV (evc st h)) = some 0 ∧ (mx.bind fun h => intOfTV (evc st h)) = some 0 ∧
    (match x with | .d (.sl _ _) => True | .nl => True | .own _ => True | _ => False) ∧ onSt R (put st .nl dst)
def i64OfTV : TV → Option Int
  | .d (.i .i64 n) => some n
  | _ => none
def unstrK (P : Program) (st : St) (pt : TypeId) : TV → TV → Option (Nat × List (List T))
  | .ap k i f, n => ob (lk k st.o) fun
    | .arr A m es => ob (tyPtr P pt) fun el => ob (i64OfTV n) fun l =>
        ob (chk ((i == 0 && f == 0) && ((m == 1 && decide (A.tag = some el)) && ((decide (P.cellsOf el = 1) && decide (l = es.length)) && decide (0 < es.length))))) fun _ => some (k, es)
    | .box _ _ => none
    | .fz _ _ _ => none
  | _, _ => none
def noG : Option (Nat × Bool) → Bool
  | none => true
  | some _ => false
def aunstr (P : Program) (R : St → Prop) (st : St) (dst : Option Nat) (pt : TypeId) (p n : TV) : Prop :=
  noG st.g = true ∧ ∃ k x, unstrK P st pt p n = some (k, bytesT x) ∧ onSt R (put (frz st [k]) (.d (.s x)) dst)
def aop [Known] (P : Program) (R : St → Prop) (st : St) (o : Oper) : Op → Prop
  | .store t x v => onSt R (ob (astore P st t x v) fun st' => put st' .unk o.dst)
  | .call c => match c.callee with
    | .value f => acall P R st o.dst (evc st f) (c.args.toList.map (evc st))
    | .builtin .append => match c.argTypes.toList, c.args.toList with
      | [t, u], [s, x] => aappend P R st o.dst t u (evc st s) (evc st x)
      | _, _ => False
    | .builtin .unsafeString => match c.argTypes.toList, c.args.toList with
      | [pt, _], [p, n] => aunstr P R st o.dst pt (evc st p) (evc st n)
      | _, _ => False
    | _ => onSt R (lop P st o)
  | .convert src d x => match tyInt P d with
    | some _ => onSt R (lop P st o)
    | none => match tyStr P d with
      | true => astr P R st o.dst src d (evc st x)
      | false => match isPtr (evc st x) with
        | true => onSt R (lop P st o)
        | false => abytes P R st o.dst src d (evc st x)
  | .makeSlice t l c => amake P R st o.dst t (evc st l) (evc st c)
  | .buildSlice t len parts => abuild P R st o.dst t len parts.toList
  | .slice t x lo hi none => match evc st x with
    | .own k => asliceOwn P R st o.dst t lo hi k ∨ ∃ y, lo = none ∧ hi = some y ∧ areslice P R st o.dst t y k
    | _ => onSt R (lop P st o)
  | .slice t x lo hi (some m) => azero P R st o.dst t lo hi (some m) (evc st x)
  | _ => onSt R (lop P st o)
end Go.Av
end
