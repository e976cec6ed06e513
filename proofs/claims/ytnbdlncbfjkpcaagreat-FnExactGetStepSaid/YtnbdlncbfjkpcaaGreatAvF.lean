/- Named blocks: laws that write into results. -/
import Derived.Test.YtnbdlncbfjkpcaaGreatAvCfg
import Derived.Test.YtnbdlncbfjkpcaaGreatAvC
import Derived.Test.YtnbdlncbfjkpcaaGreatAvD
set_option linter.all false
set_option linter.unusedVariables false
set_option linter.unusedSimpArgs false

section
set_option linter.unusedVariables false
namespace Go.Av

theorem take_snocI {α : Type} (f : Nat → α → List T) {l : List α} {i : Nat} (h : i < l.length) : (l.take i).mapIdx f ++ [f i l[i]] = (l.take (i + 1)).mapIdx f := by
  have hl : (l.take i).length = i := by simp; omega
  rw [← List.take_append_getElem h, List.mapIdx_append, hl]
  simp
/-- All in the list have names, each another one, that begin with p. -/
structure Nm (p : Tok) (L : List (Option Tok)) : Prop where
  some : ∀ x ∈ L, ∃ q, x = some q ∧ p <+: q
  nd : L.Nodup
theorem Nm.nil (p : Tok) : Nm p [] := ⟨fun x hx => (by cases hx), List.nodup_nil⟩
theorem Nm.weak {p r : Tok} {L : List (Option Tok)} (h : Nm (p ++ r) L) : Nm p L := ⟨fun x hx => let ⟨q, h1, h2⟩ := h.some x hx; ⟨q, h1, (List.prefix_append p r).trans h2⟩, h.nd⟩
/-- Names that lie at p, at indices from i on. -/
structure NmI (p : Tok) (i : Nat) (L : List (Option Tok)) : Prop where
  some : ∀ x ∈ L, ∃ k q, i ≤ k ∧ x = some q ∧ p ++ [k] <+: q
  nd : L.Nodup
theorem NmI.nil (p : Tok) (i : Nat) : NmI p i [] := ⟨fun x hx => (by cases hx), List.nodup_nil⟩
theorem NmI.cons {p : Tok} {i : Nat} {L M : List (Option Tok)} (h : Nm (p ++ [i]) L) (k : NmI p (i + 1) M) : NmI p i (L ++ M) := by
  refine ⟨fun x hx => ?_, List.nodup_append.2 ⟨h.nd, k.nd, fun a ha b hb e => ?_⟩⟩
  · rcases List.mem_append.1 hx with hx | hx
    · obtain ⟨q, h1, h2⟩ := h.some x hx; exact ⟨i, q, Nat.le_refl _, h1, h2⟩
    · obtain ⟨j, q, h0, h1, h2⟩ := k.some x hx; exact ⟨j, q, by omega, h1, h2⟩
  · obtain ⟨q, h1, h2⟩ := h.some a ha
    obtain ⟨j, q', g0, g1, g2⟩ := k.some b hb
    subst e
    rw [h1] at g1
    cases g1
    exact not_both (r := []) (q := []) (show i ≠ j by omega) (by rw [List.append_nil]; exact h2) (by rw [List.append_nil]; exact g2)
theorem NmI.nm {p : Tok} {i : Nat} {L : List (Option Tok)} (h : NmI p i L) : Nm p L := ⟨fun x hx => let ⟨_, q, _, h1, h2⟩ := h.some x hx; ⟨q, h1, pre_trans h2⟩, h.nd⟩
theorem NmI.top {p : Tok} {L : List (Option Tok)} (h : NmI p 0 L) : Nm p (Option.some p :: L) := by
  refine ⟨fun x hx => ?_, List.nodup_cons.2 ⟨fun hm => ?_, h.nd⟩⟩
  · rcases List.mem_cons.1 hx with rfl | hx
    · exact ⟨p, rfl, List.prefix_refl _⟩
    · exact h.nm.some x hx
  · obtain ⟨k, q, _, h1, h2⟩ := h.some _ hm
    cases h1
    have := h2.length_le
    simp at this
    omega
theorem cn_nm : ∀ n : Nat, (∀ (t : T) p, SizeOf.sizeOf t < n → Nm p (tkT (t.cn p))) ∧ (∀ (l : List T) p j, SizeOf.sizeOf l < n → NmI p j (tkCs (cnCs p j l))) ∧ (∀ (l : List (List T)) p j, SizeOf.sizeOf l < n → NmI p j (tkEs (cnEs p j l))) := by
  intro n
  induction n with
  | zero => exact ⟨fun _ _ h => absurd h (Nat.not_lt_zero _), fun _ _ _ h => absurd h (Nat.not_lt_zero _), fun _ _ _ h => absurd h (Nat.not_lt_zero _)⟩
  | succ n ih =>
    refine ⟨fun t p h => ?_, fun l p j h => ?_, fun l p j h => ?_⟩
    · cases t with
      | sl A es => simp at h; exact (ih.2.2 es p 0 (by omega)).top
      | _ => exact .nil _
    · cases l with
      | nil => exact .nil _ _
      | cons t l => simp at h; exact .cons (ih.1 t _ (by omega)) (ih.2.1 l p (j + 1) (by omega))
    · cases l with
      | nil => exact .nil _ _
      | cons t l => simp at h; exact .cons (ih.2.1 t _ 0 (by omega)).nm (ih.2.2 l p (j + 1) (by omega))
theorem tk_cn (t : T) (p : Tok) : Nm p (tkT (t.cn p)) := (cn_nm (SizeOf.sizeOf t + 1)).1 t p (by omega)
theorem tkEs_mapIdx {α : Type} (f : Nat → α → List T) : ∀ (l : List α) (i : Nat), (∀ k x, Nm [k] (tkCs (f k x))) → NmI [] i (tkEs (l.mapIdx fun k x => f (i + k) x))
  | [], i, _ => .nil _ _
  | x :: l, i, h => by
    rw [List.mapIdx_cons, tkEs]
    refine .cons (h i x) ?_
    have := tkEs_mapIdx f l (i + 1) h
    simpa only [Nat.add_assoc, Nat.add_comm 1, Function.comp_def] using this
/-- Of elements that each have names that begin with their place. -/
theorem tk_idx {α : Type} (f : Nat → α → List T) (l : List α) (h : ∀ k x, Nm [k] (tkCs (f k x))) : NmI [] 0 (tkEs (l.mapIdx f)) := by
  simpa using tkEs_mapIdx f l 0 h
theorem NmI.lt {α : Type} (f : Nat → α → List T) (l : List α) (h : ∀ k x, Nm [k] (tkCs (f k x))) : ∀ x ∈ tkEs (l.mapIdx f), ∃ k r, k < l.length ∧ x = Option.some (k :: r) := by
  have go : ∀ (l : List α) (i : Nat), ∀ x ∈ tkEs (l.mapIdx fun k x => f (i + k) x), ∃ k r, k < i + l.length ∧ x = Option.some (k :: r) := by
    intro l
    induction l with
    | nil => intro i x hx; cases hx
    | cons y l ih =>
      intro i x hx
      rw [List.mapIdx_cons, tkEs] at hx
      rcases List.mem_append.1 hx with hx | hx
      · obtain ⟨q, h1, u, rfl⟩ := (h i y).some x hx
        exact ⟨i, u, by simp, h1⟩
      · have e : (fun k x => f (i + (k + 1)) x) = fun k x => f (i + 1 + k) x := by funext k x; rw [show i + (k + 1) = i + 1 + k by omega]
        obtain ⟨k, r, h1, h2⟩ := ih (i + 1) x (by rw [← e]; exact hx)
        exact ⟨k, r, by simp; omega, h2⟩
  simpa using go l 0
@[push_cast] theorem canOk_b (x : Bool) : canOk (.d (.b x)) [] = True := by simp [canOk, tkTV, tkT, tkO, flatTV, arrO, keysOf]
@[push_cast] theorem canOk_i (k : IntKind) (x : Int) : canOk (.d (.i k x)) [] = True := by simp [canOk, tkTV, tkT, tkO, flatTV, arrO, keysOf]
@[push_cast] theorem canOk_s (x : ByteArray) : canOk (.d (.s x)) [] = True := by simp [canOk, tkTV, tkT, tkO, flatTV, arrO, keysOf]
/-- The result of a function that makes names: an array whose elements have names, itself named last. -/
theorem canOk_top {α : Type} (f : Nat → α → List T) (l : List α) (h : ∀ k x, Nm [k] (tkCs (f k x))) : canOk (.d (.sl (.tok [l.length]) (l.mapIdx f))) [] := by
  have h1 := tk_idx f l h
  have h2 := NmI.lt f l h
  refine ⟨⟨?_, ?_⟩, rfl, rfl, List.nodup_nil⟩
  · intro hn
    simp only [tkTV, tkT, annTok, tkO, List.append_nil, List.cons_append, List.nil_append, List.mem_cons] at hn
    rcases hn with hn | hn
    · cases hn
    · obtain ⟨_, _, _, h3⟩ := h2 _ hn; cases h3
  · simp only [tkTV, tkT, annTok, tkO, List.append_nil, List.cons_append, List.nil_append]
    refine List.nodup_cons.2 ⟨fun hm => ?_, h1.nd⟩
    obtain ⟨k, r, h3, h4⟩ := h2 _ hm
    cases h4
    omega
mutual
theorem T.cn_er (p : Tok) : ∀ t : T, t.erase.cn p = t.cn p
  | .b _ => rfl
  | .i _ _ => rfl
  | .s _ => rfl
  | .raw _ => rfl
  | .sl A es => by simp only [T.ann, T.cn, cnEs_er p es 0]
theorem cnEs_er (p : Tok) : ∀ (es : List (List T)) (i : Nat), cnEs p i (annEs .any es) = cnEs p i es
  | [], _ => rfl
  | e :: es, i => by simp only [annEs, cnEs, cnCs_er (p ++ [i]) e 0, cnEs_er p es (i + 1)]
theorem cnCs_er (p : Tok) : ∀ (es : List T) (i : Nat), cnCs p i (annCs .any es) = cnCs p i es
  | [], _ => rfl
  | e :: es, i => by simp only [annCs, cnCs, T.cn_er (p ++ [i]) e, cnCs_er p es (i + 1)]
end
/-- Names by place go by what the trees are without names. -/
theorem cnEs_same {p : Tok} {i : Nat} {es es' : List (List T)} (h : annEs .any es = annEs .any es') : cnEs p i es = cnEs p i es' := by rw [← cnEs_er, h, cnEs_er]
mutual
theorem T.er_cn (p : Tok) : ∀ t : T, (t.cn p).erase = t.erase
  | .b _ => rfl
  | .i _ _ => rfl
  | .s _ => rfl
  | .raw _ => rfl
  | .sl A es => by simp only [T.ann, T.cn, er_cnEs p es 0]
@[push_cast] theorem er_cnEs (p : Tok) : ∀ (es : List (List T)) (i : Nat), annEs .any (cnEs p i es) = annEs .any es
  | [], _ => rfl
  | e :: es, i => by simp only [annEs, cnEs, er_cnCs (p ++ [i]) e 0, er_cnEs p es (i + 1)]
theorem er_cnCs (p : Tok) : ∀ (es : List T) (i : Nat), annCs .any (cnCs p i es) = annCs .any es
  | [], _ => rfl
  | e :: es, i => by simp only [annCs, cnCs, T.er_cn (p ++ [i]) e, er_cnCs p es (i + 1)]
end
mutual
theorem T.pre_cn (n : Nat) (p : Tok) : ∀ t : T, (t.cn p).pre n = t.cn (n :: p)
  | .b _ => rfl
  | .i _ _ => rfl
  | .s _ => rfl
  | .raw _ => rfl
  | .sl A es => by simp only [T.pre, T.cn, pre_cnEs n p es 0, preA]
@[push_cast] theorem pre_cnEs (n : Nat) (p : Tok) : ∀ (es : List (List T)) (i : Nat), preEs n (cnEs p i es) = cnEs (n :: p) i es
  | [], _ => rfl
  | e :: es, i => by simp only [preEs, cnEs, pre_cnCs n (p ++ [i]) e 0, pre_cnEs n p es (i + 1), List.cons_append]
theorem pre_cnCs (n : Nat) (p : Tok) : ∀ (es : List T) (i : Nat), preCs n (cnCs p i es) = cnCs (n :: p) i es
  | [], _ => rfl
  | e :: es, i => by simp only [preCs, cnCs, T.pre_cn n (p ++ [i]) e, pre_cnCs n p es (i + 1), List.cons_append]
end
@[push_cast] theorem map_tkF_some (n : Nat) (a : Bool) (es : List (List T)) : es.map (fun e => e.map (tkF true (some (n, a)))) = preEs n es := by
  rw [preEs_eq]; rfl
@[push_cast] theorem map_tkF_none (es : List (List T)) : es.map (fun e => e.map (tkF true none)) = annEs .any es := by
  rw [annEs_eq]; rfl

@[push_cast] theorem cn_cnEs (p q : Tok) (es : List (List T)) (i j : Nat) : cnEs p i (cnEs q j es) = cnEs p i es := cnEs_same (er_cnEs q es j)
@[push_cast] theorem snoc1 (a b : Nat) : [a] ++ [b] = [a, b] := rfl
@[push_cast] theorem snoc2 (a b c : Nat) : [a, b] ++ [c] = [a, b, c] := rfl
@[push_cast] theorem snoc3 (a b c d : Nat) : [a, b, c] ++ [d] = [a, b, c, d] := rfl
@[push_cast] theorem snoc4 (a b c d e : Nat) : [a, b, c, d] ++ [e] = [a, b, c, d, e] := rfl
theorem annEs_map {α : Type} {f g : α → List T} (h : ∀ x, annCs .any (f x) = g x) (l : List α) : annEs .any (l.map f) = l.map g := by
  rw [annEs_eq, List.map_map]
  exact List.map_congr_left fun x _ => by rw [← h x, annCs_eq]; rfl
theorem annEs_mapIdx {α : Type} {f : Nat → α → List T} {g : α → List T} (h : ∀ i x, annCs .any (f i x) = g x) (l : List α) : annEs .any (l.mapIdx f) = l.map g := by
  rw [annEs_eq]
  apply List.ext_getElem
  · simp
  · intro i h1 h2
    simp only [List.getElem_mapIdx, List.getElem_map]
    rw [← h i, annCs_eq]
@[push_cast] theorem cnEs_length (p : Tok) (i : Nat) (es : List (List T)) : (cnEs p i es).length = es.length := cnEs_len p es i

/- Values, rows, bags, relations. -/
@[push_cast] theorem er_vC (l : List V) : annEs .any (l.map vC) = l.map vC := annEs_map (fun _ => rfl) l
@[push_cast] theorem cn_vC (l : List V) (p : Tok) (i : Nat) : cnEs p i (l.map vC) = l.map vC := by
  rw [cnEs_eq]
  apply List.ext_getElem
  · simp
  · intro j h1 h2
    simp [vC, cnCs, T.cn]
@[push_cast] theorem pre_vC (n : Nat) (l : List V) : preEs n (l.map vC) = l.map vC := by
  rw [preEs_eq, List.map_map]
  rfl
@[push_cast] theorem er_cC (l : List C) : annEs .any (l.map cC) = l.map cC := annEs_map (fun x => by simp only [cC, annCs, T.ann, er_vC]) l
@[push_cast] theorem er_rC (l : List R) : annEs .any (l.map rC) = l.map rC := annEs_map (fun x => by simp only [rC, annCs, T.ann, er_cC]) l
@[push_cast] theorem tk_vC (l : List V) : tkEs (l.map vC) = [] := by
  induction l with
  | nil => rfl
  | cons x l ih => simp only [List.map_cons, tkEs, ih]; rfl
end Go.Av
end

section
set_option linter.unusedVariables false
set_option linter.unusedSectionVars false
namespace Go.Av

mutual
/-- All that is known, under the one name [] of what is old. -/
def ageTV : TV → TV
  | .unk => .unk
  | .d t => .d (t.ann (.tok []))
  | .nl => .nl
  | .agg cs => .agg (ageL cs)
  | .tup cs => .tup (ageL cs)
  | .ptr k o => .ptr k o
  | .own k => .own k
  | .ap k i f => .ap k i f
  | .rp _ => .unk
  | .clo f cap => .clo f (ageL cap)
  | .fn _ => .unk
def ageL : List TV → List TV
  | [] => []
  | x :: xs => ageTV x :: ageL xs
end
def ageT : List (Nat × TV) → List (Nat × TV)
  | [] => []
  | (i, x) :: l => (i, ageTV x) :: ageT l
def ageO : Objs → Objs
  | [] => []
  | (k, .box cs ty) :: l => (k, .box (ageL cs) ty) :: ageO l
  | (_, .arr _ _ _) :: l => ageO l
  | (_, .fz _ _ _) :: l => ageO l
def ageSt (st : St) : St := { t := ageT st.t, o := ageO st.o, ks := st.ks, n := st.n, sz := st.sz, u := st.u, g := st.g }
/-- The objects are boxes. -/
def boxesB : Objs → Bool
  | [] => true
  | (_, .box _ _) :: l => boxesB l
  | (_, .arr _ _ _) :: _ => false
  | (_, .fz _ _ _) :: _ => false

theorem ageL_eq (l : List TV) : ageL l = l.map ageTV := by
  induction l with
  | nil => rfl
  | cons a l ih => simp [ageL, ih]

section
variable [Known] {P : Program} {X : Nat → Prop} {β0 : Places} {w0 w w' : World} {S0 S S' : Stable} {st st' : St} {a : Act} {β β' : Places}

theorem Rep.age {t : T} {v : Value} (h : Rep w S t v) : Rep w ⟨S.c, fun q b => q = [] ∧ ∃ o, S b o⟩ (t.ann (.tok [])) v := by
  induction h with
  | b x => exact .b x
  | i k n => exact .i k n
  | s x => exact .s x
  | raw v h => exact .raw v h
  | nil A a cap => exact .nil _ a cap
  | sl B es b off m cap vs hb ht h0 hm hcap hs hc hr ih =>
    have e1 : T.ann (.tok []) (.sl B es) = .sl (.tok []) (es.map (·.map (T.ann (.tok [])))) := by simp [T.ann, annEs_eq]
    rw [e1]
    have e2 : es.length = (es.map (·.map (T.ann (.tok [])))).length := by simp
    by_cases hn : es = []
    · subst hn; exact .nil _ _ _
    · have hp : 0 < es.length := List.length_pos_iff.2 hn
      have he : 0 < es[0].length := by rw [hm _ (List.getElem_mem _)]; exact h0
      rw [e2]
      refine .sl _ _ b off m cap vs trivial (fun q hq => ?_) h0 ?_ (by simpa using hcap) ?_ ?_ ?_
      · cases hq; exact ⟨⟨rfl, _, hs 0 0 hp he⟩, fun h => absurd rfl h⟩
      · intro e he
        obtain ⟨e', he', rfl⟩ := List.mem_map.1 he
        simpa using hm e' he'
      · intro i j hi hj
        exact hs i j (by simpa using hi) (by simpa using hj)
      · intro i j hi hj
        exact hc i j (by simpa using hi) (by simpa using hj)
      · intro i j hi hj
        have := ih i j (by simpa using hi) (by simpa using hj)
        simpa using this
theorem RV.age {tv : TV} {v : Value} (h : RV P w S β tv v) : RV P w ⟨S.c, fun q b => q = [] ∧ ∃ o, S b o⟩ β (ageTV tv) v := by
  induction h with
  | unk v => exact .unk v
  | d h => exact .d h.age
  | nl a => exact .nl a
  | @agg cs vs hl h ih =>
    rw [ageTV, ageL_eq]
    exact .agg (by simpa using hl) fun i hi hj => by rw [List.getElem_map]; exact ih i (by simpa using hi) hj
  | @tup cs vs hl h ih =>
    rw [ageTV, ageL_eq]
    exact .tup (by simpa using hl) fun i hi hj => by rw [List.getElem_map]; exact ih i (by simpa using hi) hj
  | own k ad had => exact .own k ad had
  | ptr k off => exact .ptr k off
  | ap k i g => exact .ap k i g
  | rp hs hc hr => exact .unk _
  | @clo f cap vs hl h ih =>
    rw [ageTV, ageL_eq]
    exact .clo (by simpa using hl) fun i hi hj => by rw [List.getElem_map]; exact ih i (by simpa using hi) hj
  | fn h => exact .unk _
theorem age_ok {p : Nat → Prop} : ∀ {tv : TV}, tv.ok p → (ageTV tv).ok p := by
  have key : ∀ n : Nat, ∀ tv : TV, SizeOf.sizeOf tv < n → tv.ok p → (ageTV tv).ok p := by
    intro n
    induction n with
    | zero => exact fun t h => absurd h (Nat.not_lt_zero _)
    | succ n ih =>
      intro tv h ho
      have many : ∀ cs : List TV, (∀ y ∈ cs, SizeOf.sizeOf y < n) → okL p cs → okL p (ageL cs) := fun cs h1 h2 => by
        rw [ageL_eq]
        rw [okL_iff] at h2 ⊢
        intro x hx
        obtain ⟨y, hy, rfl⟩ := List.mem_map.1 hx
        exact ih y (h1 y hy) (h2 y hy)
      cases tv with
      | agg cs => exact many cs (fun y hy => by have := List.sizeOf_lt_of_mem hy; simp at h; omega) ho
      | tup cs => exact many cs (fun y hy => by have := List.sizeOf_lt_of_mem hy; simp at h; omega) ho
      | clo f cs => exact many cs (fun y hy => by have := List.sizeOf_lt_of_mem hy; simp at h; omega) ho
      | rp cs => trivial
      | fn g => trivial
      | _ => exact ho
  exact fun {tv} => key _ tv (Nat.lt_succ_self _)
theorem ageT_lk : ∀ {l : List (Nat × TV)} {i : Nat} {x : TV}, lk i (ageT l) = some x → ∃ y, lk i l = some y ∧ x = ageTV y
  | [], _, _, h => by cases h
  | (j, y) :: l, i, x, h => by
    by_cases hij : i = j
    · subst hij; rw [ageT, lk_cons_eq] at h; cases h; exact ⟨y, lk_cons_eq _ _ _, rfl⟩
    · rw [ageT, lk_cons_ne _ _ hij] at h
      obtain ⟨z, h1, h2⟩ := ageT_lk h
      exact ⟨z, by rw [lk_cons_ne _ _ hij]; exact h1, h2⟩
theorem ageO_lk : ∀ {l : Objs} {i : Nat} {x : Obj}, boxesB l = true → lk i (ageO l) = some x → ∃ cs ty, lk i l = some (.box cs ty) ∧ x = .box (ageL cs) ty
  | [], _, _, _, h => by cases h
  | (j, .box cs ty) :: l, i, x, hb, h => by
    simp only [boxesB] at hb
    by_cases hij : i = j
    · subst hij; rw [ageO, lk_cons_eq] at h; cases h; exact ⟨cs, ty, lk_cons_eq _ _ _, rfl⟩
    · rw [ageO, lk_cons_ne _ _ hij] at h
      obtain ⟨cs', ty', h1, h2⟩ := ageO_lk hb h
      exact ⟨cs', ty', by rw [lk_cons_ne _ _ hij]; exact h1, h2⟩
  | (j, .arr _ _ _) :: l, i, x, hb, h => by cases hb
  | (j, .fz _ _ _) :: l, i, x, hb, h => by cases hb

theorem Sim.age (h : Sim P X β0 w0 S0 st a w S β) (hb : boxesB st.o = true) {n : Nat} (hg : st.g = some (n, true)) : SimE P X β0 w0 S0 (ageSt st) a w := by
  have hkeep : KOk w ⟨S.c, fun q b => q = [] ∧ ∃ o, S b o⟩ := fun b o v hv => h.kn b o v hv
  refine ⟨⟨S.c, fun q b => q = [] ∧ ∃ o, S b o⟩, β, hkeep, h.dfr, h.size, ?_, ?_, ?_, ?_, ?_, h.bnd, h.sub, h.new, h.below, h.n, h.fix, ?_, ?_⟩
  · intro i tv hl
    obtain ⟨x, h1, rfl⟩ := ageT_lk hl
    obtain ⟨v, hv, hr, ho⟩ := h.tmps i x h1
    exact ⟨v, hv, hr.age, age_ok ho⟩
  · intro k ob hl
    obtain ⟨cs, ty, h1, rfl⟩ := ageO_lk hb hl
    obtain ⟨g1, g2, g3⟩ := h.objs k _ h1
    have g2 : okL (· ∈ st.ks) cs := g2
    refine ⟨?_, ?_, g3⟩
    · cases g1 with
      | box hv hbb hll hr ht =>
        rw [ageL_eq]
        exact .box hv hbb (by simpa using hll) (fun i hi hj => by rw [List.getElem_map]; exact (hr i (by simpa using hi) hj).age) ht
    · show okL _ _
      rw [ageL_eq, okL_iff]
      intro x hx
      obtain ⟨y, hy, rfl⟩ := List.mem_map.1 hx
      exact age_ok (okL_iff.1 g2 y hy)
  · intro k ob hl
    obtain ⟨cs, ty, h1, rfl⟩ := ageO_lk hb hl
    exact fun x hx => h.own k (.box cs ty) h1 x hx
  · intro k k' ob ob' hl hl'
    obtain ⟨cs, ty, h1, rfl⟩ := ageO_lk hb hl
    obtain ⟨cs', ty', h1', rfl⟩ := ageO_lk hb hl'
    exact h.inj k k' _ _ h1 h1'
  · intro k ob hl hw
    obtain ⟨cs, ty, h1, rfl⟩ := ageO_lk hb hl
    exact h.sep k _ h1 rfl
  · intro b z hz
    obtain ⟨a1, a2, a3, a4⟩ := h.gh b z hz
    refine ⟨a1, a2, ?_, a4⟩
    intro k ob hl
    obtain ⟨cs, ty, h1, rfl⟩ := ageO_lk hb hl
    exact a3 k _ h1
  · have htk := h.tk
    rw [show (ageSt st).g = st.g from rfl, hg]
    rw [hg] at htk
    refine ⟨htk.1, fun b hb => ⟨rfl, hb.2, fun q hq => hq.1⟩, ?_, ?_, ?_⟩
    · exact fun q b hq => absurd hq.2.1 hq.1
    · exact fun q b b' hq => absurd hq.2.1 hq.1
    · exact fun q q' b hq => absurd hq.2.1 hq.1

/-- From every world of which the state tells, the code ends as told. -/
def Wp (P : Program) (X : Nat → Prop) (β0 : Places) (w0 : World) (S0 : Stable) (Q : Exit → Act → World → Prop) (c : Code) (st : St) : Prop := ∀ a w, SimE P X β0 w0 S0 st a w → c.wp P Q a w

variable {Q : Exit → Act → World → Prop}
theorem Wp.seq {C : Cfg} (hE : ∀ g h, C.E g = some h → ExtOk C.P g h) (hO : ∀ g h ins args r, C.O g = some h → h ins args = some r → m1 C g ins args r) {g : FuncId} {c1 rest : Code} {s : St}
    (h : evB C g c1 ⟨⟩ st = some (.normal, s)) (k : Wp C.P X β0 w0 S0 Q rest s) : Wp C.P X β0 w0 S0 Q (.seq c1 rest) st := by
  intro a w hs
  refine wp_seq (wp_mono ((ev_all C hE hO).2.1 g c1 st _ h X β0 w0 S0 a w hs) ?_)
  rintro e a' w' ⟨st', ⟨rfl, rfl⟩, hs'⟩
  exact k a' w' hs'
theorem Wp.age {c : Code} (hb : boxesB st.o = true) {n : Nat} (hg : st.g = some (n, true)) (k : Wp P X β0 w0 S0 Q c (ageSt st)) : Wp P X β0 w0 S0 Q c st :=
  fun a w ⟨_, _, h⟩ => k a w (h.age hb hg)
theorem Wp.last {C : Cfg} (hE : ∀ g h, C.E g = some h → ExtOk C.P g h) (hO : ∀ g h ins args r, C.O g = some h → h ins args = some r → m1 C g ins args r) {g : FuncId} {c : Code} {s : St}
    (h : evB C g c ⟨⟩ st = some (.ret, s)) (k : ∀ a w, SimE C.P X β0 w0 S0 s a w → Q .ret a w) : Wp C.P X β0 w0 S0 Q c st := by
  intro a w hs
  refine wp_mono ((ev_all C hE hO).2.1 g c st _ h X β0 w0 S0 a w hs) ?_
  rintro e a' w' ⟨st', ⟨rfl, rfl⟩, hs'⟩
  exact k a' w' hs'

/-- The state that a law begins with. -/
def initL (args : List TV) (sz : Nat) : St := { t := argT 0 args, o := [], ks := [], n := 0, sz := sz, u := noU, g := some (0, true) }
/-- A law that is walked to its end, where its result is true. -/
theorem law_true {f : FuncId} {fn : Func} {c : Code} {args : List TV} {vs : Array Value} {t : Nat} (hf : P.funcs[f]? = some fn) (hb : fn.body = some c) (hz : args.length ≤ fn.ntmps) (hres : fn.results = #[.tmp t])
    (hkn : KOk w (inHeap w)) (hl : args.length = vs.size) (hrv : ∀ i (hi : i < args.length) (hj : i < vs.size), RV P w (inHeap w) noPl args[i] vs[i]) (hok : okL (· ∈ keysOf []) args)
    (h : ∀ (Q : Exit → Act → World → Prop), (∀ s, evc s (.tmp t) = .d (.b true) → ∀ a w', SimE P (fun _ => False) noPl w (inHeap w) s a w' → Q .ret a w') → Wp P (fun _ => False) noPl w (inHeap w) Q c (initL args fn.ntmps)) :
    Calls P f vs w fun e w' => e = .returned (.bool true) ∧ Go.RowKit.Below w.heap.size w w' := by
  refine calls_of_wp hf hb ?_
  have hs : Sim P (fun _ => False) noPl w (inHeap w) (initL args fn.ntmps) { tmps := vs ++ Array.replicate (fn.ntmps - vs.size) undef, defers := [] } w (inHeap w) noPl := by
    refine ⟨hkn, rfl, by simp [initL]; omega, ?_, ?_, ?_, ?_, ?_, fun _ _ h => h, fun _ _ h => h, fun _ _ h => .inl h, BelowX.refl _ _ _, Nat.zero_le _, fun _ _ => rfl, ?_, ⟨fun _ h => h, fun _ _ h => h⟩, fun _ h => h.elim, ?_, ?_, ?_⟩
    · intro i tv hlk
      obtain ⟨_, h2⟩ := lk_argT args 0 i tv hlk
      rw [Nat.sub_zero] at h2
      obtain ⟨hi, rfl⟩ := List.getElem?_eq_some_iff.1 h2
      have hi2 : i < vs.size := by omega
      refine ⟨vs[i], ?_, hrv i hi hi2, okL_get hok i hi⟩
      rw [Array.getElem?_append_left hi2]
      exact Array.getElem?_eq_getElem hi2
    · intro k ob hk; cases hk
    · intro k ob hk; cases hk
    · intro k k' ob ob' hk; cases hk
    · intro k ob hk; cases hk
    · intro b z hz; cases hz
    · exact fun q b hq => hq.2.elim
    · exact fun q b b' hq => hq.2.elim
    · exact fun q q' b hq => hq.2.elim
  refine h _ ?_ _ w ⟨_, _, hs⟩
  rintro s hsv a' w' ⟨S', β', hs'⟩
  have hv := (evc_sound hs' (.tmp t)).1
  rw [hsv] at hv
  have hv := rv_bool hv
  refine ⟨hs'.dfr, .bool true, ?_, rfl, hs'.below.os, hs'.below.tape, hs'.below.output, hs'.below.size, fun k hk => hs'.below.block k hk (fun h => h)⟩
  rw [results_eq, hres]
  have hv' : a'.tmps.getD t undef = .bool true := hv
  simp [resOne, hv']
end
end Go.Av
end

section
set_option linter.unusedVariables false
set_option linter.unusedSectionVars false
namespace Go.Av

mutual
/-- What marking makes of a cell, from the number k on; mt: the texts of numbers. -/
def mkT (mt : Int → ByteArray) : T → Int → T × Int
  | .i _ _, k => (.i .i64 k, IntKind.i64.wrap (k + 1))
  | .s _, k => (.s (mt k), IntKind.i64.wrap (k + 1))
  | .b x, k => (.b x, k)
  | .raw v, k => (.raw v, k)
  | .sl A es, k => (.sl A (mkEs mt es k).1, (mkEs mt es k).2)
def mkEs (mt : Int → ByteArray) : List (List T) → Int → List (List T) × Int
  | [], k => ([], k)
  | e :: es, k => ((mkCs mt e k).1 :: (mkEs mt es (mkCs mt e k).2).1, (mkEs mt es (mkCs mt e k).2).2)
def mkCs (mt : Int → ByteArray) : List T → Int → List T × Int
  | [], k => ([], k)
  | t :: ts, k => ((mkT mt t k).1 :: (mkCs mt ts (mkT mt t k).2).1, (mkCs mt ts (mkT mt t k).2).2)
end

theorem mkEs_append (mt : Int → ByteArray) : ∀ (l r : List (List T)) (k : Int), mkEs mt (l ++ r) k = ((mkEs mt l k).1 ++ (mkEs mt r (mkEs mt l k).2).1, (mkEs mt r (mkEs mt l k).2).2)
  | [], r, k => rfl
  | e :: l, r, k => by simp only [List.cons_append, mkEs, mkEs_append mt l r]
theorem mkEs_len (mt : Int → ByteArray) : ∀ (l : List (List T)) (k : Int), (mkEs mt l k).1.length = l.length
  | [], k => rfl
  | e :: l, k => by simp [mkEs, mkEs_len mt l]
/-- The first j elements marked, the others as they were. -/
def mkUp (mt : Int → ByteArray) (es : List (List T)) (k : Int) (j : Nat) : List (List T) := (mkEs mt (es.take j) k).1 ++ es.drop j
def mkK (mt : Int → ByteArray) (es : List (List T)) (k : Int) (j : Nat) : Int := (mkEs mt (es.take j) k).2
theorem mkUp_len {mt : Int → ByteArray} {es : List (List T)} {k : Int} {j : Nat} : (mkUp mt es k j).length = es.length := by simp [mkUp, mkEs_len]; omega
theorem mkUp_zero {mt : Int → ByteArray} {es : List (List T)} {k : Int} : mkUp mt es k 0 = es := by simp [mkUp, mkEs]
theorem mkUp_all {mt : Int → ByteArray} {es : List (List T)} {k : Int} : mkUp mt es k es.length = (mkEs mt es k).1 := by simp [mkUp]
theorem mkK_all {mt : Int → ByteArray} {es : List (List T)} {k : Int} : mkK mt es k es.length = (mkEs mt es k).2 := by simp [mkK]
theorem mkUp_get {mt : Int → ByteArray} {es : List (List T)} {k : Int} {j : Nat} (h : j < es.length) (h' : j < (mkUp mt es k j).length) : (mkUp mt es k j)[j] = es[j] := by
  have : (mkEs mt (es.take j) k).1.length = j := by rw [mkEs_len]; simp; omega
  simp only [mkUp]
  rw [List.getElem_append_right (by omega)]
  simp [this]
theorem mkUp_succ {mt : Int → ByteArray} {es : List (List T)} {k : Int} {j : Nat} (h : j < es.length) : (mkUp mt es k j).set j (mkCs mt es[j] (mkK mt es k j)).1 = mkUp mt es k (j + 1) := by
  have hl : (mkEs mt (es.take j) k).1.length = j := by rw [mkEs_len]; simp; omega
  simp only [mkUp, mkK]
  rw [List.set_append_right _ _ (by omega), hl, Nat.sub_self, List.drop_eq_getElem_cons h, List.set_cons_zero, List.take_succ_eq_append_getElem h, mkEs_append]
  simp [mkEs]
theorem mkK_succ {mt : Int → ByteArray} {es : List (List T)} {k : Int} {j : Nat} (h : j < es.length) : mkK mt es k (j + 1) = (mkCs mt es[j] (mkK mt es k j)).2 := by
  simp only [mkK]
  rw [List.take_succ_eq_append_getElem h, mkEs_append]
  simp [mkEs]

/-- The block lies under the place p. -/
def Und (p : Tok) (S : Stable) (b : Nat) : Prop := ∃ q, p <+: q ∧ S.t q b
/-- Names as a law has them. -/
structure Nmd (w : World) (S : Stable) : Prop where
  full : ∀ q b, q ≠ [] → S.t q b → ∃ vs e, w.heap[b]? = some (.cells vs e (0, 0))
  i1 : ∀ q b b', q ≠ [] → S.t q b → S.t q b' → b = b'
  i2 : ∀ q q' b, q ≠ [] → S.t q b → S.t q' b → q = q'
/-- What a marking leaves: nothing else is changed that was there. -/
structure Mv (p : Tok) (w : World) (S : Stable) (w' : World) : Prop where
  os : w'.os = w.os
  tape : w'.tape = w.tape
  output : w'.output = w.output
  size : w.heap.size ≤ w'.heap.size
  block : ∀ b, b < w.heap.size → ¬ Und p S b → w'.heap[b]? = w.heap[b]?
  full : ∀ q b, q ≠ [] → S.t q b → ∃ vs e, w'.heap[b]? = some (.cells vs e (0, 0))

section
variable {w w' w1 w2 : World} {S : Stable} {p : Tok}
theorem Mv.refl (hn : Nmd w S) : Mv p w S w := ⟨rfl, rfl, rfl, Nat.le_refl _, fun _ _ _ => rfl, hn.full⟩
theorem Mv.trans {q : Tok} (h : Mv p w S w1) (k : Mv q w1 S w2) (hq : p <+: q) : Mv p w S w2 :=
  ⟨k.os.trans h.os, k.tape.trans h.tape, k.output.trans h.output, Nat.le_trans h.size k.size, fun b hb hu =>
    (k.block b (Nat.lt_of_lt_of_le hb h.size) (fun ⟨q', h1, h2⟩ => hu ⟨q', hq.trans h1, h2⟩)).trans (h.block b hb hu), k.full⟩
theorem Mv.nmd (hn : Nmd w S) (h : Mv p w S w') : Nmd w' S := ⟨h.full, hn.i1, hn.i2⟩

/-- A tree all of whose blocks are as they were. -/
theorem Rep.same {t : T} {v : Value} (h : Rep w S t v) : (∀ x ∈ tkT t, ∃ q, x = some q ∧ ∀ b, S.t q b → w'.heap[b]? = w.heap[b]?) → Rep w' S t v := by
  induction h with
  | b x => exact fun _ => .b x
  | i k n => exact fun _ => .i k n
  | s x => exact fun _ => .s x
  | raw v h => exact fun _ => .raw v h
  | nil A a cap => exact fun _ => .nil A a cap
  | sl A es B off m cap vs hb ht h0 hm hcap hs hc hr ih =>
    intro hx
    by_cases hes : es = []
    · subst hes; exact .nil _ _ _
    obtain ⟨q, rfl⟩ := annTok_some hes (A := A) (fun hn => by obtain ⟨_, h, _⟩ := hx none (List.mem_append_left _ hn); cases h)
    obtain ⟨q', h1, h2⟩ := hx (some q) (List.mem_append_left _ (by simp [annTok]))
    cases h1
    have hB := h2 B (ht q rfl).1
    have hsub : ∀ i j (hi : i < es.length) (hj : j < es[i].length), ∀ x ∈ tkT es[i][j], x ∈ tkEs es := by
      have cs : ∀ (l : List T) (j : Nat) (hj : j < l.length), ∀ x ∈ tkT l[j], x ∈ tkCs l := by
        intro l
        induction l with
        | nil => intro j hj; cases hj
        | cons a l ihl =>
          intro j hj x hx
          cases j with
          | zero => exact List.mem_append_left _ hx
          | succ j => exact List.mem_append_right _ (ihl j (by simpa using hj) x (by simpa using hx))
      have go : ∀ (l : List (List T)) i (hi : i < l.length), ∀ x ∈ tkCs l[i], x ∈ tkEs l := by
        intro l
        induction l with
        | nil => intro i hi; cases hi
        | cons a l ihl =>
          intro i hi x hx
          cases i with
          | zero => exact List.mem_append_left _ hx
          | succ i => exact List.mem_append_right _ (ihl i (by simpa using hi) x (by simpa using hx))
      exact fun i j hi hj x hx => go es i hi x (cs es[i] j hj x hx)
    refine .sl _ es B off m cap vs hb ht h0 hm hcap hs (fun i j hi hj => ?_) (fun i j hi hj => ih i j hi hj fun x hx' => hx x (List.mem_append_right _ (hsub i j hi hj x hx')))
    rw [← hc i j hi hj]
    simp only [World.cell?, hB]
theorem Rep.frame {t : T} {v : Value} (h : Rep w S (t.cn p) v) (hw : ∀ b, Und p S b → w'.heap[b]? = w.heap[b]?) : Rep w' S (t.cn p) v :=
  h.same fun x hx => let ⟨q, h1, h2⟩ := (tk_cn t p).some x hx; ⟨q, h1, fun b hb => hw b ⟨q, h2, hb⟩⟩

/-- An array whose blocks are named by place. -/
structure Row (w : World) (S : Stable) (p : Tok) (B off m : Nat) (es : List (List T)) (vs : Nat → Nat → Value) : Prop where
  name : S.t p B ∧ (p ≠ [] → off = 0)
  hm : ∀ i (hi : i < es.length), es[i].length = m
  st : ∀ i j, i < es.length → j < m → S B (off + i * m + j)
  cell : ∀ i j, i < es.length → j < m → w.cell? ⟨B, off + i * m + j, none⟩ = some (vs i j)
  rep : ∀ i j (hi : i < es.length) (hj : j < es[i].length), Rep w S (T.cn (p ++ [i] ++ [j]) es[i][j]) (vs i j)

theorem Row.of {es : List (List T)} {v : Value} (he : es ≠ []) (h : Rep w S (.sl (.tok p) (cnEs p 0 es)) v) : ∃ B off m cap vs, v = .slice (some ⟨B, off, none⟩) es.length cap ∧ es.length ≤ cap ∧ 0 < m ∧ Row w S p B off m es vs := by
  generalize hx : cnEs p 0 es = xs at h
  cases h with
  | nil _ a cap =>
    have := cnEs_len p es 0
    rw [hx] at this
    exact absurd (List.eq_nil_of_length_eq_zero this.symm) he
  | sl _ _ B off m cap vs hb ht h0 hm hcap hs hc hr =>
    subst hx
    have hl := cnEs_len p es 0
    have hlen : ∀ i (hi : i < es.length), es[i].length = m := fun i hi => by
      have := hm _ (List.getElem_mem (l := cnEs p 0 es) (n := i) (by omega))
      rwa [cnEs_get, cnCs_len] at this
    have hj' : ∀ i j (hi : i < es.length), j < m → j < ((cnEs p 0 es)[i]'(by omega)).length := fun i j hi hj => by rw [cnEs_get, cnCs_len, hlen i hi]; exact hj
    refine ⟨B, off, m, cap, vs, by rw [hl], by omega, h0, ht p rfl, hlen, fun i j hi hj => hs i j (by omega) (hj' i j hi hj), fun i j hi hj => hc i j (by omega) (hj' i j hi hj), fun i j hi hj => ?_⟩
    have := hr i j (by omega) (hj' i j hi (by rw [← hlen i hi]; exact hj))
    simp only [cnEs_get, cnCs_get] at this
    exact this
theorem Row.to {B off m cap : Nat} {es : List (List T)} {vs : Nat → Nat → Value} (h : Row w S p B off m es vs) (h0 : 0 < m) (hcap : es.length ≤ cap) : Rep w S (.sl (.tok p) (cnEs p 0 es)) (.slice (some ⟨B, off, none⟩) es.length cap) := by
  have hl := cnEs_len p es 0
  rw [← hl]
  have hlen : ∀ i (hi : i < (cnEs p 0 es).length), (cnEs p 0 es)[i].length = m := fun i hi => by rw [cnEs_get, cnCs_len]; exact h.hm i (by omega)
  refine .sl _ _ B off m cap vs trivial (fun q hq => by cases hq; exact h.name) h0 ?_ (by omega) ?_ ?_ ?_
  · intro e he
    obtain ⟨i, hi, rfl⟩ := List.mem_iff_getElem.1 he
    exact hlen i hi
  · exact fun i j hi hj => h.st i j (by omega) (by rw [← hlen i hi]; exact hj)
  · exact fun i j hi hj => h.cell i j (by omega) (by rw [← hlen i hi]; exact hj)
  · intro i j hi hj
    simp only [cnEs_get, cnCs_get]
    exact h.rep i j (by omega) (by rw [h.hm]; rw [← hlen i hi]; exact hj)

/-- A cell of it turned. -/
theorem Row.turn {B off m : Nat} {es : List (List T)} {vs : Nat → Nat → Value} (h : Row w S p B off m es vs) (hn : Nmd w S) (hp : p ≠ []) {i c : Nat} (hi : i < es.length) (hc : c < m) {t' : T} {v' : Value}
    (h1 : ∀ b, Und p S b → b ≠ B → ¬ Und (p ++ [i] ++ [c]) S b → w'.heap[b]? = w.heap[b]?) (h2 : ∀ x, x ≠ off + i * m + c → w'.cell? ⟨B, x, none⟩ = w.cell? ⟨B, x, none⟩)
    (h3 : w'.cell? ⟨B, off + i * m + c, none⟩ = some v') (h4 : Rep w' S (T.cn (p ++ [i] ++ [c]) t') v') :
    Row w' S p B off m (es.set i (es[i].set c t')) (fun a b => if a = i ∧ b = c then v' else vs a b) := by
  have hcl : c < es[i].length := by rw [h.hm i hi]; exact hc
  have hidx : ∀ a b, a < es.length → b < m → ¬ (a = i ∧ b = c) → off + a * m + b ≠ off + i * m + c := by
    intro a b ha hb hne e
    have e : a * m + b = i * m + c := by omega
    have h0 : 0 < m := by omega
    have e1 : (a * m + b) / m = a := by rw [Nat.mul_comm, Nat.mul_add_div h0, Nat.div_eq_of_lt hb]; rfl
    have e2 : (i * m + c) / m = i := by rw [Nat.mul_comm, Nat.mul_add_div h0, Nat.div_eq_of_lt hc]; rfl
    have : a = i := by rw [← e1, e, e2]
    subst this
    exact hne ⟨rfl, by omega⟩
  refine ⟨h.name, ?_, fun a b ha hb => h.st a b (by simpa using ha) hb, ?_, ?_⟩
  · intro a ha
    have ha' : a < es.length := by simpa using ha
    by_cases hai : i = a
    · subst hai; simp [h.hm i hi]
    · rw [List.getElem_set_ne hai]; exact h.hm a ha'
  · intro a b ha hb
    have ha' : a < es.length := by simpa using ha
    by_cases he : a = i ∧ b = c
    · obtain ⟨rfl, rfl⟩ := he; simpa using h3
    · rw [if_neg he, h2 _ (hidx a b ha' hb he)]; exact h.cell a b ha' hb
  · intro a b ha hb
    have ha' : a < es.length := by simpa using ha
    by_cases he : a = i ∧ b = c
    · obtain ⟨rfl, rfl⟩ := he
      simpa using h4
    · rw [if_neg he]
      have hbl : b < es[a].length := by
        by_cases hai : i = a
        · subst hai; simpa using hb
        · rw [List.getElem_set_ne hai] at hb; exact hb
      have hg : (es.set i (es[i].set c t'))[a][b] = es[a][b] := by
        by_cases hai : i = a
        · subst hai
          simp only [List.getElem_set_self]
          rw [List.getElem_set_ne (fun e => he ⟨rfl, e.symm⟩)]
        · simp only [List.getElem_set_ne hai]
      rw [hg]
      refine (h.rep a b ha' hbl).frame fun bl ⟨q, g1, g2⟩ => ?_
      have hpq : p <+: q := (List.prefix_append p [a]).trans ((List.prefix_append (p ++ [a]) [b]).trans g1)
      have hq0 : q ≠ [] := fun e => by subst e; exact hp (List.prefix_nil.1 hpq)
      refine h1 bl ⟨q, hpq, g2⟩ ?_ ?_
      · rintro rfl
        have := hn.i2 p q _ hp h.name.1 g2
        subst this
        have := g1.length_le
        simp at this
        omega
      · rintro ⟨q', g3, g4⟩
        have := hn.i2 q q' bl hq0 g2 g4
        subst this
        by_cases hai : a = i
        · subst hai
          exact not_both (p := p ++ [a]) (r := []) (q := []) (show b ≠ c from fun e => he ⟨rfl, e⟩) (by rw [List.append_nil]; exact g1) (by rw [List.append_nil]; exact g3)
        · exact not_both (p := p) hai g1 g3

theorem cell_frozen {b x : Nat} {vs : Array Value} {e : TypeId} (h : w.heap[b]? = some (.cells vs e (0, 0))) : w.frozen? ⟨b, x, none⟩ = false := by
  simp [World.frozen?, h]
/-- A scalar stored. -/
theorem Row.store {B off m : Nat} {es : List (List T)} {vs : Nat → Nat → Value} (h : Row w S p B off m es vs) (hn : Nmd w S) (hp : p ≠ []) {i c : Nat} (hi : i < es.length) (hc : c < m) {t' : T} {v' : Value} (ht : ∀ (w : World) (q : Tok), Rep w S (T.cn q t') v') :
    w.cell? ⟨B, off + i * m + c, none⟩ = some (vs i c) ∧ w.frozen? ⟨B, off + i * m + c, none⟩ = false ∧
      Row (w.setCell ⟨B, off + i * m + c, none⟩ v') S p B off m (es.set i (es[i].set c t')) (fun a b => if a = i ∧ b = c then v' else vs a b) ∧ Mv p w S (w.setCell ⟨B, off + i * m + c, none⟩ v') := by
  have h0 := h.cell i c hi hc
  obtain ⟨cs, e, hb⟩ := hn.full p B hp h.name.1
  have hoth : ∀ b, b ≠ B → (w.setCell ⟨B, off + i * m + c, none⟩ v').heap[b]? = w.heap[b]? := fun b hb => Go.RowKit.Below.heap_setCell w ⟨B, off + i * m + c, none⟩ v' b hb
  refine ⟨h0, cell_frozen hb, h.turn hn hp hi hc (fun b _ hbn _ => hoth b hbn) (fun x hx => World.cell?_setCell_other w _ _ _ (fun e => hx (by cases e; rfl))) (World.cell?_setCell_same w _ _ h0) (ht _ _), rfl, rfl, rfl, by simp, fun b _ hu => hoth b (fun e => hu ⟨p, List.prefix_refl _, e ▸ h.name.1⟩), ?_⟩
  intro q b hq hS
  by_cases hbB : b = B
  · subst hbB
    exact ⟨_, _, heap_setCell_same w b (off + i * m + c) cs e v' hb⟩
  · rw [hoth b hbB]; exact hn.full q b hq hS
/-- What lies below a cell marked. -/
theorem Row.sub {B off m : Nat} {es : List (List T)} {vs : Nat → Nat → Value} (h : Row w S p B off m es vs) (hn : Nmd w S) (hp : p ≠ []) {i c : Nat} (hi : i < es.length) (hc : c < m) {t' : T}
    (hm : Mv (p ++ [i] ++ [c]) w S w') (hlt : ∀ b x, S b x → b < w.heap.size) (hnm : ∀ q b, q ≠ [] → S.t q b → ∃ x, S b x) (h4 : Rep w' S (T.cn (p ++ [i] ++ [c]) t') (vs i c)) :
    Row w' S p B off m (es.set i (es[i].set c t')) vs := by
  have hB : w'.heap[B]? = w.heap[B]? := by
    refine hm.block B (hlt B _ (h.st i c hi hc)) ?_
    rintro ⟨q, h1, h2⟩
    have := hn.i2 p q B hp h.name.1 h2
    subst this
    have := h1.length_le
    simp at this
    omega
  have hcell : ∀ x, w'.cell? ⟨B, x, none⟩ = w.cell? ⟨B, x, none⟩ := fun x => by simp only [World.cell?, hB]
  have := h.turn hn hp hi hc (w' := w') (t' := t') (v' := vs i c) (fun b ⟨q, h1, h2⟩ _ hu => hm.block b (by
    have hq0 : q ≠ [] := fun e => by subst e; exact hp (List.prefix_nil.1 h1)
    obtain ⟨x, hx⟩ := hnm q b hq0 h2
    exact hlt b x hx) hu) (fun x _ => hcell x) (by rw [hcell]; exact h.cell i c hi hc) h4
  have e : (fun a b => if a = i ∧ b = c then vs i c else vs a b) = vs := by
    funext a b
    split
    · rename_i hh; obtain ⟨rfl, rfl⟩ := hh; rfl
    · rfl
  rw [e] at this
  exact this
end

/-- A function that marks lists of elements of a kind. -/
def MOk (mt : Int → ByteArray) (P : Program) (g : FuncId) (Sh : List (List T) → Prop) : Prop :=
  ∀ (w : World) (S : Stable) (p : Tok) (es : List (List T)) (v : Value) (k : Int), p ≠ [] → Nmd w S → (∀ b x, S b x → b < w.heap.size) → (∀ q b, q ≠ [] → S.t q b → ∃ x, S b x) → Sh es → Rep w S (.sl (.tok p) (cnEs p 0 es)) v →
    Calls P g #[v, .int .i64 k] w fun e w' => e = .returned (.int .i64 (mkEs mt es k).2) ∧ Rep w' S (.sl (.tok p) (cnEs p 0 (mkEs mt es k).1)) v ∧ Mv p w S w'
end Go.Av
end

section
set_option linter.unusedVariables false
set_option linter.unusedSectionVars false
namespace Go.Av

mutual
theorem T.ann_ann (A B : Ann) : ∀ t : T, (t.ann B).ann A = t.ann A
  | .b _ => rfl
  | .i _ _ => rfl
  | .s _ => rfl
  | .raw _ => rfl
  | .sl _ es => by simp only [T.ann, annEs_annEs A B es]
theorem annEs_annEs (A B : Ann) : ∀ es : List (List T), annEs A (annEs B es) = annEs A es
  | [] => rfl
  | e :: es => by simp only [annEs, annCs_annCs A B e, annEs_annEs A B es]
theorem annCs_annCs (A B : Ann) : ∀ es : List T, annCs A (annCs B es) = annCs A es
  | [] => rfl
  | e :: es => by simp only [annCs, T.ann_ann A B e, annCs_annCs A B es]
end
/-- All its blocks are named, none under p. -/
def SafeT (p : Tok) (t : T) : Prop := ∀ x ∈ tkT t, ∃ q, x = some q ∧ ¬ p <+: q
def MkT (p : Tok) (t0 t1 : T) (t t' : T) : Prop := (t = t0 ∧ t' = t1) ∨ (t' = t ∧ SafeT p t)
mutual
def MkTV (p : Tok) (t0 t1 : T) : TV → TV → Prop
  | _, .unk => True
  | .d t, .d t' => MkT p t0 t1 t t'
  | .nl, .nl => True
  | .agg cs, .agg ds => MkL p t0 t1 cs ds
  | .ptr k o, .ptr k' o' => k' = k ∧ o' = o
  | .own k, .own k' => k' = k
  | _, _ => False
def MkL (p : Tok) (t0 t1 : T) : List TV → List TV → Prop
  | [], [] => True
  | x :: xs, y :: ys => MkTV p t0 t1 x y ∧ MkL p t0 t1 xs ys
  | _, _ => False
end
/-- The slots told of afterwards. -/
def MkTm (p : Tok) (t0 t1 : T) (l : List (Nat × TV)) : List (Nat × TV) → Prop
  | [] => True
  | (i, y) :: r => (∃ x, lk i l = some x ∧ MkTV p t0 t1 x y) ∧ MkTm p t0 t1 l r
/-- The boxes told of afterwards. -/
def MkO (p : Tok) (t0 t1 : T) (l : Objs) : Objs → Prop
  | [] => True
  | (i, .box ds ty) :: r => (∃ cs, lk i l = some (.box cs ty) ∧ MkL p t0 t1 cs ds) ∧ MkO p t0 t1 l r
  | _ => False
theorem two_of {vs : Array Value} (h : vs.size = 2) : ∃ v0 v1, vs = #[v0, v1] := by
  refine ⟨vs[0], vs[1], Array.ext h fun i h1 h2 => ?_⟩
  have : i = 0 ∨ i = 1 := by omega
  rcases this with rfl | rfl <;> rfl
theorem slice_of {w : World} {S : Stable} {A : Ann} {es : List (List T)} {v : Value} (h : Rep w S (.sl A es) v) : ∃ a len cap, v = .slice a len cap := by
  generalize hx : T.sl A es = t at h
  cases h <;> first | exact ⟨_, _, _, rfl⟩ | cases hx

section
variable [Known] {P : Program} {X : Nat → Prop} {β0 : Places} {w0 w w' : World} {S0 S S' : Stable} {st st' : St} {a : Act} {β β' : Places} {p : Tok} {t0 t1 : T}

theorem SafeT.leaf {t : T} (h : tkT t = []) : SafeT p t := fun x hx => by rw [h] at hx; cases hx
/-- Names under another call's. -/
theorem SafeT.cn {n m : Nat} {r q : Tok} (hne : n ≠ m) (t : T) : SafeT (n :: r) (t.cn (m :: q)) := fun x hx => by
  obtain ⟨q', h1, h2⟩ := (tk_cn t (m :: q)).some x hx
  refine ⟨q', h1, fun ⟨u, hu⟩ => ?_⟩
  obtain ⟨u', hu'⟩ := h2
  rw [← hu'] at hu
  exact hne (by simpa using (List.cons.inj hu).1)
theorem SafeT.sl {n m : Nat} {r q : Tok} (hne : n ≠ m) (es : List (List T)) : SafeT (n :: r) (.sl (.tok (m :: q)) (cnEs (m :: q) 0 es)) := SafeT.cn hne (.sl .any es)

theorem MkTV.ptr {k o : Nat} : MkTV p t0 t1 (.ptr k o) (.ptr k o) := ⟨rfl, rfl⟩
theorem MkTV.keep {t : T} (h : SafeT p t) : MkTV p t0 t1 (.d t) (.d t) := .inr ⟨rfl, h⟩
theorem MkTV.leaf {t : T} (h : tkT t = []) : MkTV p t0 t1 (.d t) (.d t) := .keep (SafeT.leaf h)
theorem MkTV.root : MkTV p t0 t1 (.d t0) (.d t1) := .inl ⟨rfl, rfl⟩
theorem MkL.nil : MkL p t0 t1 [] [] := trivial
theorem MkL.cons {x y : TV} {xs ys : List TV} (h : MkTV p t0 t1 x y) (k : MkL p t0 t1 xs ys) : MkL p t0 t1 (x :: xs) (y :: ys) := ⟨h, k⟩
theorem MkTm.nil {l : List (Nat × TV)} : MkTm p t0 t1 l [] := trivial
theorem MkTm.cons {l r : List (Nat × TV)} {i : Nat} {x y : TV} (h : lk i l = some x) (h2 : MkTV p t0 t1 x y) (k : MkTm p t0 t1 l r) : MkTm p t0 t1 l ((i, y) :: r) := ⟨⟨_, h, h2⟩, k⟩
theorem MkO.nil {l : Objs} : MkO p t0 t1 l [] := trivial
theorem MkO.cons {l r : Objs} {i : Nat} {cs ds : List TV} {ty : Option TypeId} (h : lk i l = some (.box cs ty)) (h2 : MkL p t0 t1 cs ds) (k : MkO p t0 t1 l r) : MkO p t0 t1 l ((i, .box ds ty) :: r) := ⟨⟨_, h, h2⟩, k⟩
theorem tk_ann (q : Tok) : ∀ n : Nat, (∀ (t : T), SizeOf.sizeOf t < n → ∀ x ∈ tkT (t.ann (.tok q)), x = some q) ∧ (∀ (l : List T), SizeOf.sizeOf l < n → ∀ x ∈ tkCs (annCs (.tok q) l), x = some q) ∧ (∀ (l : List (List T)), SizeOf.sizeOf l < n → ∀ x ∈ tkEs (annEs (.tok q) l), x = some q) := by
  intro n
  induction n with
  | zero => exact ⟨fun _ h => absurd h (Nat.not_lt_zero _), fun _ h => absurd h (Nat.not_lt_zero _), fun _ h => absurd h (Nat.not_lt_zero _)⟩
  | succ n ih =>
    refine ⟨fun t h x hx => ?_, fun l h x hx => ?_, fun l h x hx => ?_⟩
    · cases t with
      | sl A es =>
        simp only [T.ann, tkT] at hx
        rcases List.mem_append.1 hx with hx | hx
        · have ha : annTok (.tok q) (annEs (.tok q) es) = [some q] := by cases annEs (.tok q) es <;> rfl
          rw [ha] at hx
          simpa using hx
        · exact ih.2.2 es (by simp at h; omega) x hx
      | _ => cases hx
    · cases l with
      | nil => cases hx
      | cons a l =>
        simp only [annCs, tkCs] at hx
        simp at h
        rcases List.mem_append.1 hx with hx | hx
        · exact ih.1 a (by omega) x hx
        · exact ih.2.1 l (by omega) x hx
    · cases l with
      | nil => cases hx
      | cons a l =>
        simp only [annEs, tkEs] at hx
        simp at h
        rcases List.mem_append.1 hx with hx | hx
        · exact ih.2.1 a (by omega) x hx
        · exact ih.2.2 l (by omega) x hx
/-- What is old. -/
theorem SafeT.age {n : Nat} {r : Tok} (es : List (List T)) : SafeT (n :: r) (.sl (.tok []) (annEs (.tok []) es)) := fun x hx => by
  have := (tk_ann [] (SizeOf.sizeOf (T.sl .any es) + 1)).1 (.sl .any es) (by omega) x hx
  exact ⟨[], this, fun h => by have := h.length_le; simp at this⟩

theorem Sim.nmd (h : Sim P X β0 w0 S0 st a w S β) {g : Nat × Bool} (hg : st.g = some g) : Nmd w S ∧ (∀ q b, q ≠ [] → S.t q b → ∃ x, S b x) := by
  have htk := h.tk
  rw [hg] at htk
  obtain ⟨n, al⟩ := g
  refine ⟨⟨fun q b hq hS => (htk.2.2.new q b ⟨hq, hS⟩).2.2.1, fun q b b' hq h1 h2 => htk.2.2.i1 q b b' ⟨hq, h1⟩ ⟨hq, h2⟩, fun q q' b hq h1 h2 => ?_⟩, fun q b hq hS => ⟨0, (htk.2.2.new q b ⟨hq, hS⟩).2.2.2 0⟩⟩
  by_cases hq' : q' = []
  · subst hq'; exact absurd ((htk.2.1 b h2).2.2 q h1) hq
  · exact htk.2.2.i2 q q' b ⟨hq, h1⟩ ⟨hq', h2⟩

/-- What a marking does to a value whose root bears the name p. -/
theorem root_all {es es' : List (List T)} {v0 : Value} (hn : Nmd w S) (hp : p ≠ []) (hl : es'.length = es.length) (h0 : Rep w S (.sl (.tok p) (cnEs p 0 es)) v0) (h1 : Rep w' S (.sl (.tok p) (cnEs p 0 es')) v0) :
    ∀ v, Rep w S (.sl (.tok p) (cnEs p 0 es)) v → Rep w' S (.sl (.tok p) (cnEs p 0 es')) v := by
  intro v hv
  by_cases he : es = []
  · subst he
    obtain rfl : es' = [] := List.eq_nil_of_length_eq_zero hl
    cases hv with
    | nil _ a cap => exact .nil _ _ _
    | sl _ _ B off m cap vs => exact .nil _ _ _
  · have he' : es' ≠ [] := fun e => he (List.eq_nil_of_length_eq_zero (by rw [← hl, e]; rfl))
    obtain ⟨B, off, m, cap, vs, rfl, hcap, hm0, row⟩ := Row.of he h0
    obtain ⟨B1, off1, m1, cap1, vs1, rfl, hcap1, hm1, row1⟩ := Row.of he hv
    obtain ⟨B2, off2, m2, cap2, vs2, e2, hcap2, hm2, row2⟩ := Row.of he' h1
    simp only [Value.slice.injEq, Option.some.injEq, Addr.mk.injEq] at e2
    obtain ⟨⟨rfl, rfl, _⟩, _, rfl⟩ := e2
    have hB : B1 = B := hn.i1 p _ _ hp row1.name.1 row.name.1
    subst hB
    have ho : off = 0 := row.name.2 hp
    have ho1 : off1 = 0 := row1.name.2 hp
    subst ho; subst ho1
    rw [← hl]
    exact row2.to hm2 (by omega)

theorem wpR {C : Cfg} (hE : ∀ g h, C.E g = some h → ExtOk C.P g h) (hO : ∀ g h ins args r, C.O g = some h → h ins args = some r → m1 C g ins args r) {ops : Array Oper} {Q : Exit → Act → World → Prop} :
    ∀ (l : List Oper) (i m : Nat) (st s : St), (∃ r, ops.toList.drop i = l ++ r) → evR C ops ⟨⟩ l ⟨⟩ st = some s → (∀ a w, SimE C.P X β0 w0 S0 s a w → wpOps C.P ops Q (List.range' (i + l.length) m) a w) →
      ∀ a w, SimE C.P X β0 w0 S0 st a w → wpOps C.P ops Q (List.range' i (l.length + m)) a w
  | [], i, m, st, s, _, e, k, a, w, hs => by cases e; simpa using k a w hs
  | o :: l, i, m, st, s, ⟨r, hd⟩, e, k, a, w, hs => by
    simp only [evR] at e
    split at e
    · rename_i s1 h1
      have g1 := (ev_all C hE hO).2.2.2.2.1 o _ st s1 h1
      have hlen : (o :: l).length + m = (l.length + m) + 1 := by simp; omega
      rw [hlen, List.range'_succ, wpOps_cons]
      have hi : ops[i]? = some o := by
        have := congrArg (fun z => z[0]?) hd
        simpa using this
      have hd2 : ops.toList.drop (i + 1) = l ++ r := by
        rw [← List.drop_drop, hd]; rfl
      have g2 := wpR hE hO (Q := Q) l (i + 1) m s1 s ⟨r, hd2⟩ e (fun a w hs => by
        have := k a w hs
        rwa [show i + (o :: l).length = i + 1 + l.length by simp; omega] at this)
      obtain ⟨k0, k1, k2⟩ := g1.here hs
      obtain ⟨S, β, hsim⟩ := hs
      unfold wpOp
      rw [hi]
      simp only []
      cases hg : gval ops st o with
      | none => exact absurd hg k0
      | some b =>
        rw [gval_sound hsim hg]
        rw [hg] at k1 k2
        cases b with
        | true => rw [if_pos rfl]; exact .inl (Oper.wp_mono (fun a' w' hs' => g2 a' w' hs') (k1 rfl Q))
        | false => rw [if_neg (by simp)]; exact g2 _ _ (k2 rfl)
    · cases e

end
end Go.Av
end

section
set_option linter.unusedVariables false
namespace Go.Av

abbrev w6 (n : Int) : Int := IntKind.i64.wrap n
/-- The number after a marked value. -/
def kV (k : Int) : Int := w6 (w6 (w6 (k + 1) + 1) + 1)
def kIt (k : Int) : Nat → Int
  | 0 => k
  | i + 1 => kV (kIt k i)
def mkV1 (mt : Int → ByteArray) (k : Int) : V := ⟨k, w6 (k + 1), mt (w6 (w6 (k + 1) + 1))⟩
def MkdV (mt : Int → ByteArray) (L : List V) (k : Int) : Prop := ∀ i (h : i < L.length), L[i] = mkV1 mt (kIt k i)
/-- The number before the row i. -/
def qAt (L : List C) (k : Int) (i : Nat) : Int := (L.take i).foldl (fun k c => w6 (kIt k c.row.length + 1)) k
structure MkdC (mt : Int → ByteArray) (L : List C) (k : Int) : Prop where
  row : ∀ i (h : i < L.length), MkdV mt L[i].row (qAt L k i)
  n : ∀ i (h : i < L.length), L[i].n = kIt (qAt L k i) L[i].row.length
  pos : ∀ i (h : i < L.length), 0 ≤ kIt (qAt L k i) L[i].row.length

theorem kIt_succ' (k : Int) (i : Nat) : kIt k (i + 1) = kIt (kV k) i := by
  induction i with
  | zero => rfl
  | succ i ih => rw [kIt, ih]; rfl
theorem qAt_zero (L : List C) (k : Int) : qAt L k 0 = k := by simp [qAt]
theorem qAt_succ {L : List C} {k : Int} {i : Nat} (h : i < L.length) : qAt L k (i + 1) = w6 (kIt (qAt L k i) L[i].row.length + 1) := by
  simp only [qAt]
  rw [List.take_succ_eq_append_getElem h, List.foldl_append]; rfl
theorem qAt_cons (c : C) (L : List C) (k : Int) (i : Nat) : qAt (c :: L) k (i + 1) = qAt L (w6 (kIt k c.row.length + 1)) i := by
  simp [qAt]

theorem kV_in {k : Int} (h0 : 0 ≤ k) (h1 : k + 3 ≤ 9223372036854775807) : kV k = k + 3 := by
  unfold kV w6
  rw [i64_in (n := k + 1) (by omega) (by omega), i64_in (n := k + 1 + 1) (by omega) (by omega), i64_in (n := k + 1 + 1 + 1) (by omega) (by omega)]; omega
theorem kIt_in {k : Int} : ∀ {i : Nat}, 0 ≤ k → k + 3 * i ≤ 9223372036854775807 → kIt k i = k + 3 * i
  | 0, _, _ => by simp [kIt]
  | i + 1, h0, h1 => by
    rw [kIt, kIt_in h0 (by omega), kV_in (by omega) (by omega)]; omega

/-- What marking makes of values. -/
def markVs (mt : Int → ByteArray) : List V → Int → List V
  | [], _ => []
  | _ :: l, k => mkV1 mt k :: markVs mt l (kV k)
theorem markVs_len (mt : Int → ByteArray) : ∀ (l : List V) (k : Int), (markVs mt l k).length = l.length
  | [], _ => rfl
  | _ :: l, k => by simp [markVs, markVs_len mt l]
theorem markVs_mkd (mt : Int → ByteArray) : ∀ (l : List V) (k : Int), MkdV mt (markVs mt l k) k
  | [], _ => fun i h => by cases h
  | _ :: l, k => fun i h => by
    cases i with
    | zero => rfl
    | succ i => rw [kIt_succ']; exact markVs_mkd mt l (kV k) i (by simpa [markVs] using h)
theorem mkEs_vC (mt : Int → ByteArray) : ∀ (l : List V) (k : Int), mkEs mt (l.map vC) k = ((markVs mt l k).map vC, kIt k l.length)
  | [], k => rfl
  | v :: l, k => by
    simp only [List.map_cons, mkEs, vC, mkCs, mkT, markVs, List.length_cons]
    have := mkEs_vC mt l (kV k)
    rw [show IntKind.i64.wrap (IntKind.i64.wrap (IntKind.i64.wrap (k + 1) + 1) + 1) = kV k from rfl, this, kIt_succ']
    rfl
def markCs (mt : Int → ByteArray) : List C → Int → List C
  | [], _ => []
  | c :: l, k => ⟨markVs mt c.row k, kIt k c.row.length⟩ :: markCs mt l (w6 (kIt k c.row.length + 1))
theorem markCs_len (mt : Int → ByteArray) : ∀ (l : List C) (k : Int), (markCs mt l k).length = l.length
  | [], _ => rfl
  | _ :: l, k => by simp [markCs, markCs_len mt l]
theorem markCs_row (mt : Int → ByteArray) : ∀ (l : List C) (k : Int) i (h : i < l.length) (h' : i < (markCs mt l k).length), (markCs mt l k)[i].row.length = l[i].row.length
  | [], _, i, h, _ => by cases h
  | c :: l, k, i, h, h' => by
    cases i with
    | zero => exact markVs_len mt _ _
    | succ i => exact markCs_row mt l _ i (by simpa using h) (by simpa [markCs] using h')
theorem mkEs_cC (mt : Int → ByteArray) : ∀ (l : List C) (k : Int), mkEs mt (l.map cC) k = ((markCs mt l k).map cC, qAt l k l.length)
  | [], k => rfl
  | c :: l, k => by
    have := mkEs_cC mt l (w6 (kIt k c.row.length + 1))
    simp only [List.map_cons, mkEs, cC, mkCs, mkT, mkEs_vC, markCs, List.length_cons, qAt_cons]
    rw [show IntKind.i64.wrap (kIt k c.row.length + 1) = w6 (kIt k c.row.length + 1) from rfl, this]
theorem qAt_mark (mt : Int → ByteArray) : ∀ (l : List C) (k : Int) (i : Nat), qAt (markCs mt l k) k i = qAt l k i
  | [], k, i => rfl
  | c :: l, k, 0 => by simp [qAt]
  | c :: l, k, i + 1 => by
    have := qAt_mark mt l (w6 (kIt k c.row.length + 1)) i
    simp only [markCs, qAt_cons, markVs_len]; exact this
/-- The cells of rows. -/
def cellsC (l : List C) : Nat := (l.map fun c => 3 * c.row.length + 1).sum
theorem cellsC_cons (c : C) (l : List C) : cellsC (c :: l) = 3 * c.row.length + 1 + cellsC l := by simp [cellsC]
theorem markCs_mkd (mt : Int → ByteArray) : ∀ (l : List C) (k : Int), 0 ≤ k → k + cellsC l ≤ 9223372036854775807 → MkdC mt (markCs mt l k) k
  | [], k, _, _ => ⟨fun i h => (by cases h), fun i h => (by cases h), fun i h => (by cases h)⟩
  | c :: l, k, h0, h1 => by
    rw [cellsC_cons] at h1
    have e1 : kIt k c.row.length = k + 3 * c.row.length := kIt_in h0 (by omega)
    have e2 : w6 (kIt k c.row.length + 1) = k + 3 * c.row.length + 1 := by rw [e1]; exact i64_in (by omega) (by omega)
    have ih := markCs_mkd mt l (w6 (kIt k c.row.length + 1)) (by omega) (by omega)
    refine ⟨fun i h => ?_, fun i h => ?_, fun i h => ?_⟩
    · cases i with
      | zero => simp only [markCs, List.getElem_cons_zero, qAt_zero]; exact markVs_mkd mt _ _
      | succ i => simp only [markCs, List.getElem_cons_succ, qAt_cons, markVs_len]; exact ih.row i (by simpa [markCs] using h)
    · cases i with
      | zero => simp only [markCs, List.getElem_cons_zero, qAt_zero, markVs_len]
      | succ i => simp only [markCs, List.getElem_cons_succ, qAt_cons, markVs_len]; exact ih.n i (by simpa [markCs] using h)
    · cases i with
      | zero => simp only [markCs, List.getElem_cons_zero, qAt_zero, markVs_len]; omega
      | succ i => simp only [markCs, List.getElem_cons_succ, qAt_cons, markVs_len]; exact ih.pos i (by simpa [markCs] using h)
theorem qAt_in : ∀ (l : List C) (k : Int), 0 ≤ k → k + cellsC l ≤ 9223372036854775807 → qAt l k l.length = k + cellsC l
  | [], k, _, _ => by simp [qAt, cellsC]
  | c :: l, k, h0, h1 => by
    rw [cellsC_cons] at h1
    have e1 : kIt k c.row.length = k + 3 * c.row.length := kIt_in h0 (by omega)
    have e2 : w6 (kIt k c.row.length + 1) = k + 3 * c.row.length + 1 := by rw [e1]; exact i64_in (by omega) (by omega)
    rw [List.length_cons, qAt_cons, e2, qAt_in l _ (by omega) (by omega), cellsC_cons]; omega
theorem cellsC_le {l : List C} {m : Nat} : (∀ c ∈ l, c.row.length ≤ m) → cellsC l ≤ l.length * (3 * m + 1) := by
  induction l with
  | nil => intro _; simp [cellsC]
  | cons c l ih =>
    intro h
    have := ih fun d hd => h d (List.mem_cons_of_mem _ hd)
    have h1 := h c (by simp)
    rw [cellsC_cons, List.length_cons, Nat.add_mul]
    omega
end Go.Av
end
