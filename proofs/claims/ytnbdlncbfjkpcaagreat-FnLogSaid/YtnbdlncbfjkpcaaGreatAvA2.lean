/- Texts that the last one goes by: Snd14, Code1, Code2, Can, Can2, Ev1. -/
import Derived.Test.YtnbdlncbfjkpcaaGreatAvA1
import Derived.Laws.BytesArg
import Derived.Orders
set_option linter.all false
set_option linter.unusedVariables false
set_option linter.unusedSimpArgs false
section
set_option linter.unusedSectionVars false
namespace Go.Av
section
variable [Known] {P : Program} {X : Nat → Prop} {β0 : Places} {w0 w w' : World} {S0 S S' : Stable} {st st' : St} {a : Act} {β β' : Places}
theorem asliceOwn_sound (h : Sim P X β0 w0 S0 st a w S β) {R : St → Prop} {o : Oper} {t : TypeId} {x : Operand} {lo hi : Option Operand} {k : Nat} (ho : o.op = .slice t x lo hi none) (hx : evc st x = .own k)
    (e : asliceOwn P R st o.dst t lo hi k) (Q : Exit → Act → World → Prop) : o.wp P a w (fun a' w' => ∃ st', R st' ∧ SimE P X β0 w0 S0 st' a' w') Q := by
  obtain ⟨A, m, es, hk, hR⟩ := e
  obtain ⟨st', he, hr⟩ := onSt_iff hR
  obtain ⟨z, hz, he⟩ := ob_eq_some he
  obtain ⟨S1, hk1, h1⟩ := h.frz [k]
  have hv := (evc_sound h1 x).1
  rw [evc_frz, hx] at hv
  have hrep := fz_rep (h1.objs k _ hk).1 hv
  obtain ⟨u, hu, hru, hok⟩ := sliceAt_sound (p := (· ∈ (Av.frz st [k]).ks)) h1 (.d hrep) hz
  have hexec : (execOp a.eval o).run P w = .ok (.value u) w := by
    unfold execOp
    rw [ho]
    simp only [Sem.run_bind]
    simp only [Option.map_none]
    rw [hu]
    rfl
  unfold Oper.wp
  rw [hexec, Oper.upon_value]
  exact ⟨st', hr, S1, β, h1.put hru hok he⟩
theorem areslice_sound (h : Sim P X β0 w0 S0 st a w S β) {R : St → Prop} {o : Oper} {t : TypeId} {x y : Operand} {k : Nat} (ho : o.op = .slice t x none (some y) none) (hx : evc st x = .own k)
    (e : areslice P R st o.dst t y k) (Q : Exit → Act → World → Prop) : o.wp P a w (fun a' w' => ∃ st', R st' ∧ SimE P X β0 w0 S0 st' a' w') Q := by
  obtain ⟨A, m, es, d, n, hd, hk, hn, hR⟩ := e
  obtain ⟨st', he, hr⟩ := onSt_iff hR
  unfold resl at he
  obtain ⟨el, hel, he⟩ := ob_eq_some he
  obtain ⟨_, hc, he⟩ := ob_eq_some he
  cases he
  obtain ⟨c1, c2⟩ := chk2 hc
  simp only [Bool.and_eq_true, decide_eq_true_eq, beq_iff_eq] at c1 c2
  obtain ⟨hdz, h40⟩ := c1
  obtain ⟨h0, hm, h0n, hnl⟩ := c2
  obtain ⟨ky, _, hy⟩ := intOfTV_sound (evc_sound h y).1 hn
  obtain ⟨i, hi, hsz⟩ := info_of_size h0
  have hu := tyElem_eq hel
  have hov := (h.objs k _ hk).1
  have hv := (evc_sound h x).1
  rw [hx] at hv
  generalize hvv : a.eval x = v at hv
  cases hv with
  | own _ ad had =>
  have hlc : (β k).len = es.length ∧ es.length ≤ (β k).cap := by
    cases hov with
    | arr hv hb hA hm h0 hlen hcap hmax hsz ha ht => exact ⟨hlen, hcap⟩
    | arrN hv hm h0 hlen hcap => exact ⟨hlen, Nat.zero_le _⟩
  have hexec : (execOp a.eval o).run P w = .ok (.value (.slice ad n.toNat (β k).cap)) w := by
    unfold execOp
    rw [ho]
    have hb := run_sliceBounds (P := P) (w := w) (st := st) (a := a) h (lo := none) (hi := some y) (len := (β k).len) (cap := (β k).cap) (sl := true) (l := 0) (r := n) rfl (by show intOfTV _ = _; exact hn) (by omega) h0n (by omega) (by omega)
    simp only [Option.map_none, Option.map_some] at hb
    simp [Instr.sliceAt, Instr.slice, underlying, hu, hvv, hb, sizeOf, typeInfo, hi]
    cases ad with
    | none => simp
    | some v0 => cases v0; simp [Addr.add]
  unfold Oper.wp
  rw [hexec, Oper.upon_value]
  let pl : Pl := { β k with len := n.toNat }
  have hself : updP β k pl k = pl := updP_same β k pl
  have hlt : (es.take n.toNat).length = n.toNat := by simp; omega
  have hs := h.rekey (k := k) (pl := pl) (w' := w) (n := st.n) (o' := .arr A m (es.take n.toNat)) (foot (β k)) h40 (fun x hx => ⟨hx, _, hk, rfl⟩) (fun x hx => .inl hx) rfl rfl rfl (Nat.le_refl _) (fun _ _ _ => rfl) (fun _ => by
    cases hov with
    | arr hv hb hA hm h0 hlen hcap hmax hsz ha ht =>
      refine .arr (by rw [hself]; exact hv) (by rw [hself]; exact hb) (by rw [hself]; exact hA) (by rw [hself]; exact hm) h0 (by rw [hself, hlt]) (by rw [hself, hlt]; show n.toNat ≤ (β k).cap; omega) (by rw [hself]; exact hmax) (by rw [hself]; exact hsz) ⟨?_, ?_⟩ ht
      · exact fun e he => ha.hm e (List.mem_of_mem_take he)
      · intro i j hi hj
        have hi' : i < es.length := by simp at hi; omega
        have := ha.cell i j hi' (by simpa using hj)
        simpa using this
    | arrN hv hm h0 hlen hcap =>
      rw [List.take_nil]
      exact .arrN (by rw [hself]; exact hv) (by rw [hself]; exact hm) h0 (by rw [hself]; show n.toNat = 0; simp at hnl; omega) (by rw [hself]; exact hcap)) trivial h.n
  have hown : RV P w S (updP β k pl) (.own k) (.slice ad n.toNat (β k).cap) := by
    have := RV.own (P := P) (w := w) (S := S) (β := updP β k pl) k ad (by rw [hself]; exact had)
    rw [hself] at this
    exact this
  rw [hd]
  refine ⟨_, hr, S, _, hs.put hown (show k ∈ k :: st.ks from List.mem_cons_self ..) ?_⟩
  simp only [put, ob]
  rw [decide_eq_true hdz]
  rfl
theorem azero_sound (h : Sim P X β0 w0 S0 st a w S β) {R : St → Prop} {o : Oper} {t : TypeId} {x : Operand} {lo hi mx : Option Operand} (ho : o.op = .slice t x lo hi mx)
    (e : azero P R st o.dst t lo hi mx (evc st x)) (Q : Exit → Act → World → Prop) : o.wp P a w (fun a' w' => ∃ st', R st' ∧ SimE P X β0 w0 S0 st' a' w') Q := by
  obtain ⟨hel, rfl, hh, hm, hx, hR⟩ := e
  obtain ⟨st', he, hr⟩ := onSt_iff hR
  obtain ⟨y, rfl, hy⟩ := Option.bind_eq_some_iff.1 hh
  obtain ⟨z, rfl, hz⟩ := Option.bind_eq_some_iff.1 hm
  obtain ⟨ky, _, hy⟩ := intOfTV_sound (evc_sound h y).1 hy
  obtain ⟨kz, _, hz⟩ := intOfTV_sound (evc_sound h z).1 hz
  obtain ⟨el, hel, hs0⟩ := Option.map_eq_some_iff.1 hel
  obtain ⟨i, hi, hsz⟩ := info_of_size (of_decide_eq_true hs0)
  have hu := tyElem_eq hel
  obtain ⟨A, len, cap, hv⟩ : ∃ A len cap, a.eval x = .slice A len cap := by
    have hr := (evc_sound h x).1
    generalize evc st x = tv at hx hr
    cases tv <;> try (exact hx.elim)
    · rename_i tt
      cases tt <;> try (exact hx.elim)
      have := rv_d hr
      generalize a.eval x = v at this
      cases this <;> exact ⟨_, _, _, rfl⟩
    · generalize a.eval x = v at hr
      cases hr; exact ⟨_, _, _, rfl⟩
    · generalize a.eval x = v at hr
      cases hr; exact ⟨_, _, _, rfl⟩
  have hexec : (execOp a.eval o).run P w = .ok (.value (.slice A 0 0)) w := by
    unfold execOp
    rw [ho]
    simp [Instr.sliceAt, Instr.slice, underlying, hu, hv, hy, hz, Instr.sliceBounds, Instr.sliceBound, asIntOf, sizeOf, typeInfo, hi]
  unfold Oper.wp
  rw [hexec, Oper.upon_value]
  exact ⟨st', hr, S, β, h.put (.nl A) trivial he⟩
theorem run_bytes_str {src dst e : TypeId} {A : Option Addr} {cap : Nat} {x : ByteArray} {news : Array Value} (hs : P.underlying src = some (.slice e)) (he : P.underlying e = some (.int .u8)) (hd : P.underlying dst = some .string)
    (hfn : (Builtin.firstCells 1 (bytesT x).length (.slice A (bytesT x).length cap)).run P w = .ok news w) (hns : news.size = (bytesT x).length) (hna : ArrOk w S news 1 (bytesT x)) :
    (convert src dst (.slice A (bytesT x).length cap)).run P w = .ok (.string x) w := by
  have hl : (bytesT x).length = x.data.size := by simp [bytesT]
  rw [run_convert_bytes_string w src dst e A _ cap hs he hd]
  cases A with
  | none =>
    have h0 : news = #[] := by
      simp [Builtin.firstCells] at hfn
      first | exact hfn.symm | exact hfn
    subst h0
    have : x = ByteArray.empty := by
      have : x.data.size = 0 := by rw [← hl, ← hns]; rfl
      simpa using this
    simp [Conv.bytesToString, this]
  | some ad =>
    have hnews : news = ((x.data.toList.map fun b => (b.toNat : Int)).map (Value.int .u8)).toArray := by
      apply Array.ext
      · simp [hns, hl]
      · intro j h1 h2
        have hj : j < (bytesT x).length := by omega
        have hjx : j < x.data.size := by omega
        obtain ⟨v, g1, g2⟩ := hna.cell j 0 hj (by simp [bytesT])
        have e1 : j * 1 + 0 = j := by omega
        rw [e1, Array.getElem?_eq_getElem h1] at g1
        cases g1
        have g3 : (bytesT x)[j][0]'(by simp [bytesT]) = .i .u8 (x.data[j]).toNat := by simp [bytesT]
        rw [g3] at g2
        cases hq : news[j] with
        | int k n => rw [hq] at g2; cases g2; simp
        | _ => rw [hq] at g2; cases g2
    have hload : (loadCells ad (bytesT x).length).run P w = .ok ((x.data.toList.map fun b => (b.toNat : Int)).map (Value.int .u8)).toArray w := by
      rw [← hnews]
      simpa [Builtin.firstCells] using hfn
    rw [run_bytesToString w ad _ cap _ hload, foldl_push_bytes]
    congr 2
    apply ByteArray.ext
    simp only [ByteArray.empty, ByteArray.emptyWithCapacity]
    apply Array.ext'
    have hid : ((fun n : Int => UInt8.ofNat n.toNat) ∘ fun b : UInt8 => (b.toNat : Int)) = id := by
      funext b
      simp
    simp [hid]
    rfl
theorem astr_sound (h : Sim P X β0 w0 S0 st a w S β) {R : St → Prop} {o : Oper} {src d : TypeId} {x : Operand} (ho : o.op = .convert src d x) (e : astr P R st o.dst src d (evc st x)) (Q : Exit → Act → World → Prop) :
    o.wp P a w (fun a' w' => ∃ st', R st' ∧ SimE P X β0 w0 S0 st' a' w') Q := by
  have fin : ∀ (s : ByteArray), tyStr P d = true → ((tyElem P src).bind (tyInt P)) = some .u8 → readEs st 1 (evc st x) = some (bytesT s) → (∃ A cap, a.eval x = .slice A (bytesT s).length cap) → onSt R (put st (.d (.s s)) o.dst) →
      o.wp P a w (fun a' w' => ∃ st', R st' ∧ SimE P X β0 w0 S0 st' a' w') Q := by
    rintro s h1 h2 h3 ⟨A, cap, hv⟩ hR
    obtain ⟨el, h4, h5⟩ := Option.bind_eq_some_iff.1 h2
    obtain ⟨st', he, hr⟩ := onSt_iff hR
    obtain ⟨news, _, g2, g3, g4⟩ := readEs_sound h (evc_sound h x).1 h3 (by intro y hy; simp only [bytesT, List.mem_map] at hy; obtain ⟨_, _, rfl⟩ := hy; rfl) Nat.one_pos
    have hrun := run_bytes_str (A := A) (cap := cap) (x := s) (tyElem_eq h4) (tyInt_eq h5) (tyStr_eq h1) (by have := g2 w rfl; rwa [hv] at this) (by omega) g4
    have hexec : (execOp a.eval o).run P w = .ok (.value (.string s)) w := by
      unfold execOp
      rw [ho]
      simp only [Sem.run_bind, hv, hrun, Result.andThen_ok, Sem.run_pure]
    unfold Oper.wp
    rw [hexec, Oper.upon_value]
    exact ⟨st', hr, S, β, h.put (.d (.s s)) trivial he⟩
  have hr := (evc_sound h x).1
  generalize hx : evc st x = tv at e hr
  cases tv <;> try (exact e.elim)
  · rename_i tt
    cases tt <;> try (exact e.elim)
    obtain ⟨h1, h2, s, rfl, hR⟩ := e
    refine fin s h1 h2 (by rw [hx]; rfl) ?_ hR
    have := rv_d hr
    generalize a.eval x = v at this
    generalize hb : bytesT s = bs at this
    cases this <;> exact ⟨_, _, rfl⟩
  · obtain ⟨h1, h2, hR⟩ := e
    refine fin ByteArray.empty h1 h2 (by rw [hx]; rfl) ?_ hR
    generalize a.eval x = v at hr
    cases hr; exact ⟨_, _, rfl⟩
  · obtain ⟨h1, h2, ob1, m, s, hk, hes, hR⟩ := e
    rename_i k
    obtain ⟨hm, hle, _, hall, _⟩ := arr_cells (h.objs k ob1 hk).1 hes
    refine fin s h1 h2 ?_ ?_ hR
    · rw [hx]
      simp only [readEs, hk, ob, hes]
      by_cases hb : bytesT s = []
      · simp [hb, chk]
      · obtain ⟨y, ys, hy⟩ := List.exists_cons_of_ne_nil hb
        have h3 := hall y (by rw [hy]; simp)
        have h4 : y ∈ bytesT s := by rw [hy]; simp
        simp only [bytesT, List.mem_map] at h4
        obtain ⟨b, _, rfl⟩ := h4
        have : m = 1 := by simpa using h3.symm
        subst this
        simp [chk]
    · generalize a.eval x = v at hr
      cases hr with
      | own _ ad _ => rw [← hle]; exact ⟨_, _, rfl⟩
theorem Sim.fr (h : Sim P X β0 w0 S0 st a w S β) {k : Nat} {A : Ann} {m : Nat} {es : List (List T)} (hk : lk k st.o = some (.fz A m es)) (hlv : (β k).live = true) (hloc : X (β k).blk ∨ w0.heap.size ≤ (β k).blk) (hgn : st.g = none) (n : Nat) :
    Sim P X β0 w0 S0 st a (w.freeze ⟨(β k).blk, 0, none⟩ n) S β := by
  by_cases hn : n = 0
  · subst hn; exact h
  have hfk : foot (β k) (β k).blk := ⟨hlv, rfl⟩
  have hov := (h.objs k _ hk).1
  obtain ⟨vs, e, fr, hb⟩ : ∃ vs e fr, w.heap[(β k).blk]? = some (.cells vs e fr) := by
    cases hov with
    | fz hv hb hA hm h0 hlen hcap h hs hT => exact ⟨_, _, _, hb⟩
    | fzN hv hlen => rw [hlv] at hv; cases hv
  have hsz : (w.freeze ⟨(β k).blk, 0, none⟩ n).heap.size = w.heap.size := by
    unfold World.freeze; rw [if_neg hn]; simp
  have hother : ∀ b, b ≠ (β k).blk → (w.freeze ⟨(β k).blk, 0, none⟩ n).heap[b]? = w.heap[b]? := by
    intro b hne
    unfold World.freeze
    rw [if_neg hn]
    simp only [Array.getElem?_modify]
    rw [if_neg (fun e => hne e.symm)]
  obtain ⟨fr', hb'⟩ : ∃ fr', (w.freeze ⟨(β k).blk, 0, none⟩ n).heap[(β k).blk]? = some (.cells vs e fr') := by
    unfold World.freeze
    rw [if_neg hn]
    obtain ⟨lo, hi⟩ := fr
    simp only [Array.getElem?_modify, if_true, hb, Option.map_some]
    exact ⟨_, rfl⟩
  have hcell : ∀ b x, (w.freeze ⟨(β k).blk, 0, none⟩ n).cell? ⟨b, x, none⟩ = w.cell? ⟨b, x, none⟩ := by
    intro b x
    by_cases hbb : b = (β k).blk
    · subst hbb
      simp only [World.cell?, hb, hb']
    · simp only [World.cell?, hother b hbb]
  have hkeep : Keeps w S (w.freeze ⟨(β k).blk, 0, none⟩ n) S := ⟨fun _ _ h => h, fun b x _ => hcell b x, fun _ _ h => h⟩
  have hos : (w.freeze ⟨(β k).blk, 0, none⟩ n).os = w.os ∧ (w.freeze ⟨(β k).blk, 0, none⟩ n).tape = w.tape ∧ (w.freeze ⟨(β k).blk, 0, none⟩ n).output = w.output := by
    unfold World.freeze; rw [if_neg hn]; exact ⟨rfl, rfl, rfl⟩
  refine ⟨h.kn.keeps hkeep, h.dfr, h.size, ?_, ?_, h.own, h.inj, h.sep, fun b x hs => by rw [hsz]; exact h.bnd b x hs, h.sub, h.new, ?_, by rw [hsz]; exact h.n, h.fix, ?_, by have := h.tk; rw [hgn] at this ⊢; exact this⟩
  · intro i tv hl
    obtain ⟨v, hv, hr, ho⟩ := h.tmps i tv hl
    exact ⟨v, hv, hr.keeps hkeep (TV.ok_mono (fun _ _ => rfl) ho), ho⟩
  · intro j ob' hl
    obtain ⟨h1, h2, h3⟩ := h.objs j ob' hl
    by_cases hj : j = k
    · subst hj
      rw [hk] at hl
      cases hl
      refine ⟨?_, h2, h3⟩
      cases h1 with
      | fz hv hb2 hA hm h0 hlen hcap h hs hT =>
        rw [hb] at hb2
        cases hb2
        exact .fz hv hb' hA hm h0 hlen hcap (h.keeps hkeep) hs hT
      | fzN hv hlen => exact .fzN hv hlen
    · exact ⟨h1.keeps hkeep (fun hv => hother _ (fun e => h.inj j k ob' _ hl hk hj _ ⟨hv, rfl⟩ (e ▸ hfk))) rfl (okO_mono (fun _ _ => rfl) h2), h2, h3⟩
  · refine h.below.trans ⟨hos.1, hos.2.1, hos.2.2, by rw [hsz]; exact Nat.le_refl _, fun b hb2 hx => hother b ?_⟩
    intro e
    subst e
    rcases hloc with g | g
    · exact hx g
    · omega
  · intro b z hz
    obtain ⟨a1, a2, a3, a4⟩ := h.gh b z hz
    exact ⟨by rw [hother b (fun e => a3 k _ hk (e ▸ hfk))]; exact a1, a2, a3, a4⟩
theorem aunstr_sound (h : Sim P X β0 w0 S0 st a w S β) {R : St → Prop} {o : Oper} {c : Call} {pt it : TypeId} {p n : Operand} (ho : o.op = .call c) (hc : c.callee = .builtin .unsafeString) (hty : c.argTypes.toList = [pt, it]) (hax : c.args.toList = [p, n])
    (e : aunstr P R st o.dst pt (evc st p) (evc st n)) (Q : Exit → Act → World → Prop) :
    o.wp P a w (fun a' w' => ∃ st', R st' ∧ SimE P X β0 w0 S0 st' a' w') Q := by
  obtain ⟨hgn, k, x, e, hR⟩ := e
  have hgn : st.g = none := by revert hgn; cases st.g with | none => exact fun _ => rfl | some n => intro h; cases h
  have hp := (evc_sound h p).1
  have hn := (evc_sound h n).1
  unfold unstrK at e
  split at e
  · rename_i k' i f heq
    obtain ⟨ob1, hk, e⟩ := ob_eq_some e
    cases ob1 with
    | box cs ty => cases e
    | fz A m es => cases e
    | arr A m es =>
      obtain ⟨el, htp, e⟩ := ob_eq_some e
      obtain ⟨l, hl, e⟩ := ob_eq_some e
      obtain ⟨_, h1, e⟩ := ob_eq_some e
      cases e
      have h1 := chk_eq_some h1
      simp only [Bool.and_eq_true, beq_iff_eq, decide_eq_true_eq] at h1
      obtain ⟨⟨h11, h12⟩, ⟨h13, htag⟩, ⟨hce, h14⟩, hpos⟩ := h1
      subst h11; subst h12; subst h13; subst h14
      rw [heq] at hp
      generalize hpv : a.eval p = pv at hp
      cases hp
      have hnv : a.eval n = .int .i64 ((bytesT x).length : Nat) := by
        unfold i64OfTV at hl
        split at hl
        · rename_i q heq2
          rw [heq2] at hn
          have hn := rv_int hn
          rw [hn]
          cases hl
          rfl
        · cases hl
      obtain ⟨hov, _, _⟩ := h.objs k _ hk
      obtain ⟨vs, e2, hlv, hb, hA, hm, h0, hlen, hcap, hmax, hsz, ha, hty2⟩ : ∃ (vs : Array Value) (e : TypeId), (β k).live = true ∧ w.heap[(β k).blk]? = some (.cells vs e (0, 0)) ∧ A.has (β k).blk ∧ (β k).m = 1 ∧ 0 < 1 ∧
          (β k).len = (bytesT x).length ∧ (bytesT x).length ≤ (β k).cap ∧ (β k).cap ≤ maxLen ∧ vs.size = (β k).cap * 1 ∧ ArrOk w S vs 1 (bytesT x) ∧ (∀ t, A.tag = some t → e = t) := by
        generalize bytesT x = bs at hov hpos
        cases hov with
        | arrN => cases hpos
        | arr hlv hb hA hm h0 hlen hcap hmax hsz ha hty2 hfr => have hfe := hfr.2 _ htag; subst hfe; exact ⟨_, _, hlv, hb, hA.1, hm, h0, hlen, hcap, hmax, hsz, ha, hty2⟩
      ·
        have he2 := hty2 _ htag
        subst he2
        obtain ⟨q1, ii, q2⟩ := tyPtr_eq htp
        have hbl : (bytesT x).length = x.data.toList.length := by simp [bytesT]
        have hrun := Lib.run_unsafeString_row (P := P) w pt it o.type e2 q1 hce (β k).blk vs.size (by simp [World.shape?, hb]) x.data.toList (by intro hh; rw [hbl, hh] at hpos; cases hpos) (by rw [hsz, ← hbl]; omega)
          (by have : maxLen ≤ 9223372036854775807 := by decide
              omega) (by
            intro j y hj
            have hjl : j < (bytesT x).length := by rw [hbl]; exact (List.getElem?_eq_some_iff.1 hj).1
            obtain ⟨v, g1, g2⟩ := ha.cell j 0 hjl (by simp [bytesT])
            have g3 : (bytesT x)[j][0]'(by simp [bytesT]) = .i .u8 y.toNat := by
              obtain ⟨hj1, hj2⟩ := List.getElem?_eq_some_iff.1 hj
              simp [bytesT, ← hj2]
            rw [g3] at g2
            rw [Addr_add, Nat.zero_add]
            have e1 : j * 1 + 0 = j := by omega
            rw [e1] at g1
            rw [cell_of_block hb, g1]
            cases v with
            | int k n => cases g2; rfl
            | _ => cases g2)
        obtain ⟨S1, hk1, hs1⟩ := h.frz [k]
        have hloc := h.loc hk rfl (x := (β k).blk) ⟨hlv, rfl⟩
        have hfk : lk k (Av.frz st [k]).o = some (.fz A 1 (bytesT x)) := by
          simp only [Av.frz, hk, Av.frz1, frzObj, hgn, frzAnn]
          exact lk_cons_eq _ _ _
        have hs2 := hs1.fr hfk hlv hloc (by simp only [Av.frz, hk, Av.frz1, bumpO, hgn, Av.bump]) x.data.toList.length
        obtain ⟨st', he, hr⟩ := onSt_iff hR
        have hat : c.argTypes = #[pt, it] := by cases hh : c.argTypes; rw [hh] at hty; simp at hty; rw [hty]
        have haa : c.args.map a.eval = #[a.eval p, a.eval n] := by cases hh : c.args; rw [hh] at hax; simp at hax; rw [hax]; simp
        have hexec : (execOp a.eval o).run P w = .ok (.value (.string x)) (w.freeze ⟨(β k).blk, 0, none⟩ x.data.toList.length) := by
          unfold execOp
          rw [ho]
          rw [Nat.zero_mul, Nat.zero_add] at hpv
          simp only [resolve, hc, invoke, hat, haa, Sem.run_bind, Sem.run_pure, Result.andThen_ok]
          rw [hbl] at hnv
          rw [hpv, hnv]
          simp only [builtin, Sem.run_bind, hrun, Result.andThen_ok, Sem.run_pure]
        unfold Oper.wp
        rw [hexec, Oper.upon_value]
        exact ⟨st', hr, S1, β, hs2.put (.d (.s x)) trivial he⟩
  · cases e
end
end Go.Av
end
section
set_option linter.unusedSectionVars false
namespace Go.Av
section
variable [Known] {P : Program} {X : Nat → Prop} {β0 : Places} {w0 w w' : World} {S0 S S' : Stable} {st st' : St} {a : Act} {β β' : Places}
theorem shape_new (o : Array Value) (el : TypeId) : (w.alloc (.cells o el)).shape? w.heap.size = some (el, o.size) := by
  unfold World.shape?
  show (match (w.heap.push _)[w.heap.size]? with | some (.cells c elem _) => some (elem, c.size) | _ => none) = _
  simp
def bytesWorld (w : World) (el : TypeId) (x : ByteArray) (cap : Nat) : World :=
  (w.drew.alloc (.cells (x.data.map (fun b => .int .u8 b.toNat) ++ Array.replicate (cap - x.size) (.int .u8 0)) el)).freeze ⟨w.heap.size, x.data.size + (cap - x.size), none⟩ 1
theorem run_stringToBytes {el : TypeId} {x : ByteArray} : ∃ cap, x.size ≤ cap ∧ (Conv.stringToBytes el x).run P w =
    .ok (.slice (some ⟨w.heap.size, 0, none⟩) x.size cap) (bytesWorld w el x cap) ∧ (x.size ≤ maxLen → cap ≤ maxLen) := by
  refine ⟨(Question.appendCap x.size 0 el).cut (w.tape w.drawn (.appendCap x.size 0 el)), by simp [Question.cut], ?_, fun h => by
    have hm : maxLen = 9223372036854775807 := by decide
    have := Nat.mod_lt (w.tape w.drawn (.appendCap x.size 0 el)) (show 0 < 2 ^ 63 - x.size by omega)
    simp only [Question.cut]
    omega⟩
  unfold Conv.stringToBytes markStringish bytesWorld
  simp only [Sem.run_bind, run_choose, Question.forced, Bool.false_eq_true, if_false, Result.andThen_ok, newRow, run_newObj, Sem.run_pure, run_shape, World.drew_eq, World.alloc_eq]
  have := shape_new (w := w.drew) (x.data.map (fun b => Value.int .u8 b.toNat) ++ Array.replicate ((Question.appendCap x.size 0 el).cut (w.tape w.drawn (.appendCap x.size 0 el)) - x.size) (.int .u8 0)) el
  rw [this]
  simp only [run_freeze, Result.andThen_ok, Array.size_append, Array.size_map, Array.size_replicate]
  rfl
theorem bytesWorld_eq (w : World) (el : TypeId) (x : ByteArray) (cap : Nat) : bytesWorld w el x cap =
    w.drew.alloc (.cells (x.data.map (fun b => .int .u8 b.toNat) ++ Array.replicate (cap - x.size) (.int .u8 0)) el (x.data.size + (cap - x.size), x.data.size + (cap - x.size) + 1)) := by
  unfold bytesWorld World.freeze
  rw [if_neg (by decide)]
  have hz : w.drew.heap.size = w.heap.size := rfl
  generalize x.data.map (fun b => Value.int .u8 b.toNat) ++ Array.replicate (cap - x.size) (.int .u8 0) = vs
  generalize x.data.size + (cap - x.size) = n
  have key : (w.drew.heap.push (.cells vs el)).modify w.heap.size (fun
      | .cells c elem (lo, hi) => .cells c elem (if lo == hi then (n, n + 1) else (min lo n, max hi (n + 1)))
      | o => o) = w.drew.heap.push (.cells vs el (n, n + 1)) := by
    rw [← hz]
    apply Array.ext
    · simp
    · intro i h1 h2
      simp only [Array.getElem_modify, Array.getElem_push]
      by_cases hi : w.drew.heap.size = i
      · subst hi; simp
      · have : i < w.drew.heap.size := by simp at h2; omega
        rw [if_neg hi, dif_pos this, dif_pos this]
  exact congrArg (fun hp => ({ w.drew with heap := hp } : World)) key
theorem newArrB_sound (h : Sim P X β0 w0 S0 st a w S β) {d : Nat} {x : ByteArray} {el : TypeId} {cap : Nat} (hcap : x.size ≤ cap) (hmax : cap ≤ maxLen)
    (hd : newArrB st d w.heap.size (bytesT x) (w.heap.size + 1) = some st') :
    ∃ β', Sim P X β0 w0 S0 st' (a.put (some d) (.slice (some ⟨w.heap.size, 0, none⟩) x.size cap)) (bytesWorld w el x cap) S β' := by
  unfold newArrB at hd
  obtain ⟨_, h1, hd⟩ := ob_eq_some hd
  obtain ⟨h2, h3⟩ := chk2 h1
  have h2 := of_decide_eq_true h2
  have h3 : kOf d ∉ st.ks := by
    intro hm
    rw [hasKey_iff.2 hm] at h3
    cases h3
  cases hd
  have hlen : (bytesT x).length = x.size := by simp [bytesT]
  have hvs : (x.data.map (fun b : UInt8 => Value.int .u8 (b.toNat : Nat)) ++ Array.replicate (cap - x.size) (Value.int .u8 0)).size = cap := by
    simp only [Array.size_append, Array.size_map, Array.size_replicate]
    have : x.data.size = x.size := rfl
    omega
  rw [bytesWorld_eq]
  have hdr := h.drew
  have hws : w.drew.heap.size = w.heap.size := rfl
  let pl : Pl := ⟨true, w.heap.size, x.size, cap, 1⟩
  have hself : updP β (kOf d) pl (kOf d) = pl := updP_same β _ pl
  generalize hvv : (x.data.map (fun b : UInt8 => Value.int .u8 (b.toNat : Nat)) ++ Array.replicate (cap - x.size) (Value.int .u8 0)) = vs at hvs ⊢
  have hfrE : x.data.size + (cap - x.size) = vs.size := by
    have : x.data.size = x.size := rfl
    omega
  rw [hfrE]
  have hok : ArrOk w.drew S vs 1 (bytesT x) := by
    refine ⟨fun e he => ?_, fun i j hi hj => ?_⟩
    · simp only [bytesT, List.mem_map] at he
      obtain ⟨_, _, rfl⟩ := he
      rfl
    · have hi' : i < x.data.size := by simpa [bytesT] using hi
      have hj' : j = 0 := by simpa [bytesT] using hj
      subst hj'
      refine ⟨.int .u8 (x.data[i]).toNat, ?_, ?_⟩
      · rw [← hvv, Nat.mul_one, Nat.add_zero, Array.getElem?_append_left (by simpa using hi'), Array.getElem?_map, Array.getElem?_eq_getElem hi']
        rfl
      · simp only [bytesT, List.getElem_map, List.getElem_cons_zero, Array.getElem_toList]
        exact .i _ _
  have hov : OV P (w.drew.alloc (.cells vs el (vs.size, vs.size + 1))) S (updP β (kOf d) pl) (kOf d) (.arr (.blk w.heap.size) 1 (bytesT x)) := by
    refine .arr (vs := vs) (e := el) (fr := (vs.size, vs.size + 1)) (by rw [hself]) ?_ ⟨by rw [hself]; rfl, by simp⟩ (by rw [hself]) Nat.one_pos (by rw [hself, hlen]) (by rw [hself, hlen]; exact hcap) (by rw [hself]; exact hmax) (by rw [hself, Nat.mul_one]; exact hvs) (hok.keeps (keeps_alloc _ hdr.bnd)) (fun t ht => by cases ht) ⟨.inr (Nat.le_refl _), fun t ht => by cases ht⟩
    rw [hself]
    exact Array.getElem?_push_size (xs := w.drew.heap)
  have hs := hdr.newObj (k := kOf d) (pl := pl) (ob := .arr (.blk w.heap.size) 1 (bytesT x)) (o := .cells vs el (vs.size, vs.size + 1)) h3 (kOf_ge d) rfl hov trivial
  have hs := hs.setN (n := w.heap.size + 1) (by simp [hws])
  refine ⟨updP β (kOf d) pl, ?_⟩
  have e2 : Av.put (setN { st with o := (kOf d, Obj.arr (.blk w.heap.size) 1 (bytesT x)) :: st.o, ks := kOf d :: st.ks } (w.heap.size + 1)) (.own (kOf d)) (some d) =
      some { t := (d, .own (kOf d)) :: st.t, o := (kOf d, .arr (.blk w.heap.size) 1 (bytesT x)) :: st.o, ks := kOf d :: st.ks, n := w.heap.size + 1, sz := st.sz, u := st.u, g := st.g } := by
    simp [Av.put, setN, h2, chk, ob]
  refine hs.put (x := .own (kOf d)) ?_ (List.mem_cons_self ..) e2
  have := RV.own (P := P) (w := w.drew.alloc (.cells vs el (vs.size, vs.size + 1))) (S := S) (β := updP β (kOf d) pl) (kOf d) (some ⟨w.heap.size, 0, none⟩) (by rw [hself]; exact fun _ => rfl)
  rw [hself] at this
  exact this
theorem freeze_heap {b o n k : Nat} (h : k ≠ b) : (w.freeze ⟨b, o, none⟩ n).heap[k]? = w.heap[k]? := by
  unfold World.freeze
  split
  · rfl
  · simp only [Array.getElem?_modify]
    rw [if_neg (fun e => h e.symm)]
theorem freeze_cell {b o n k x : Nat} : (w.freeze ⟨b, o, none⟩ n).cell? ⟨k, x, none⟩ = w.cell? ⟨k, x, none⟩ := by
  by_cases h : k = b
  · subst h
    unfold World.freeze
    split
    · rfl
    · simp only [World.cell?, Array.getElem?_modify, if_true]
      cases w.heap[k]? with
      | none => rfl
      | some z => cases z <;> rfl
  · simp only [World.cell?, freeze_heap h]
theorem freeze_size {b o n : Nat} : (w.freeze ⟨b, o, none⟩ n).heap.size = w.heap.size := by
  unfold World.freeze; split <;> simp
theorem Sim.fresh (h : Sim P X β0 w0 S0 st a w S β) (hb : Go.RowKit.Below w.heap.size w w') (hs : w.heap.size < w'.heap.size) :
    Sim P X β0 w0 S0 (Av.setN st (w.heap.size + 1)) a w' ⟨fun b x => S b x ∨ b = w.heap.size, S.t⟩ β := by
  have hx : Ext w S w' ⟨fun b x => S b x ∨ b = w.heap.size, S.t⟩ := by
    refine ⟨fun _ _ h => .inl h, fun b x hh => ?_, fun b x hh => ?_, hb, fun _ _ => Iff.rfl⟩
    · rcases hh with hh | hh
      · exact .inl hh
      · exact .inr (by omega)
    · rcases hh with hh | hh
      · have := h.bnd b x hh; omega
      · omega
  exact (h.ext hx).setN hs
theorem aop_sound (h : Sim P X β0 w0 S0 st a w S β) {R : St → Prop} {o : Oper} (e : aop P R st o o.op) (Q : Exit → Act → World → Prop) :
    o.wp P a w (fun a' w' => ∃ st', R st' ∧ SimE P X β0 w0 S0 st' a' w') Q := by
  have other : onSt R (lop P st o) → o.wp P a w (fun a' w' => ∃ st', R st' ∧ SimE P X β0 w0 S0 st' a' w') Q := by
    intro e
    obtain ⟨st', he, hR⟩ := onSt_iff e
    obtain ⟨v, w', β', hrun, hs⟩ := lop_sound h he
    unfold Oper.wp
    rw [hrun, Oper.upon_value]
    exact ⟨st', hR, S, β', hs⟩
  cases hop : o.op with
  | store t x v =>
    rw [hop] at e
    obtain ⟨st2, he, hR⟩ := onSt_iff e
    obtain ⟨st1, h1, h2⟩ := ob_eq_some he
    unfold astore at h1
    obtain ⟨new, hn, h1⟩ := ob_eq_some h1
    obtain ⟨_, hz, h1⟩ := ob_eq_some h1
    obtain ⟨g1, g2, g3⟩ := cellsOf_sound (evc_sound h v).1 (evc_sound h v).2 hn
    obtain ⟨w', hrun, S', β', hs⟩ := storeAt_sound h (of_decide_eq_true (chk_eq_some hz)) (evc_sound h x).1 g1 g2 g3 h1
    unfold Oper.wp
    have : (execOp a.eval o).run P w = .ok .skip w' := by
      unfold execOp
      rw [hop]
      simp only [Sem.run_bind, hrun, Result.andThen_ok, Sem.run_pure]
    rw [this, Oper.upon_skip]
    exact ⟨st2, hR, S', β', hs.put (.unk _) trivial h2⟩
  | call c =>
    rw [hop] at e
    simp only [aop] at e
    cases hc : c.callee with
    | value f => rw [hc] at e; exact acall_sound h hop hc e Q
    | invoke r m => rw [hc] at e; exact other e
    | builtin b =>
      rw [hc] at e
      by_cases hb : b = .append
      · subst hb
        simp only at e
        cases hty : c.argTypes.toList with
        | nil => rw [hty] at e; exact e.elim
        | cons t l =>
          cases l with
          | nil => rw [hty] at e; exact e.elim
          | cons u l =>
            cases l with
            | cons _ _ => rw [hty] at e; exact e.elim
            | nil =>
              cases hax : c.args.toList with
              | nil => rw [hty, hax] at e; exact e.elim
              | cons s l =>
                cases l with
                | nil => rw [hty, hax] at e; exact e.elim
                | cons x l =>
                  cases l with
                  | cons _ _ => rw [hty, hax] at e; exact e.elim
                  | nil => rw [hty, hax] at e; exact aappend_sound h hop hc hty hax e Q
      · by_cases hb2 : b = .unsafeString
        · subst hb2
          simp only at e
          cases hty : c.argTypes.toList with
          | nil => rw [hty] at e; exact e.elim
          | cons t l =>
            cases l with
            | nil => rw [hty] at e; exact e.elim
            | cons u l =>
              cases l with
              | cons _ _ => rw [hty] at e; exact e.elim
              | nil =>
                cases hax : c.args.toList with
                | nil => rw [hty, hax] at e; exact e.elim
                | cons s l =>
                  cases l with
                  | nil => rw [hty, hax] at e; exact e.elim
                  | cons x l =>
                    cases l with
                    | cons _ _ => rw [hty, hax] at e; exact e.elim
                    | nil => rw [hty, hax] at e; exact aunstr_sound h hop hc hty hax e Q
        · refine other ?_
          cases b <;> first | exact absurd rfl hb | exact absurd rfl hb2 | exact e
  | convert src d x =>
    rw [hop] at e
    simp only [aop] at e
    cases hti : tyInt P d with
    | some k => rw [hti] at e; exact other e
    | none =>
      rw [hti] at e
      cases hst : tyStr P d with
      | true => rw [hst] at e; exact astr_sound h hop e Q
      | false =>
      rw [hst] at e
      simp only [] at e
      cases hip : isPtr (evc st x) with
      | true => rw [hip] at e; exact other e
      | false =>
      rw [hip] at e
      simp only [] at e
      have hx := (evc_sound h x).1
      generalize evc st x = tv at e hx
      cases tv <;> try (exact e.elim)
      rename_i tt
      cases tt <;> try (exact e.elim)
      rename_i s
      have hx := rv_str hx
      obtain ⟨h1, h2, h3⟩ := e
      obtain ⟨el, h4, h5⟩ := Option.bind_eq_some_iff.1 h2
      obtain ⟨cap, hcap, hrun, hcm⟩ := run_stringToBytes (P := P) (w := w) (el := el) (x := s)
      have hexec : (execOp a.eval o).run P w = .ok (.value (.slice (some ⟨w.heap.size, 0, none⟩) s.size cap)) (bytesWorld w el s cap) := by
        unfold execOp
        rw [hop]
        simp only [Sem.run_bind, hx, convert, underlying, run_program, Result.andThen_ok, tyStr_eq h1, tyElem_eq h4, Sem.run_pure, tyInt_eq h5]
        rw [hrun]
        rfl
      unfold Oper.wp
      rw [hexec, Oper.upon_value]
      rcases h3 with h3 | ⟨hmx, dd, hdd, h3⟩
      rotate_left
      · obtain ⟨st', he, hR⟩ := onSt_iff (h3 w.heap.size h.n)
        obtain ⟨β', hs⟩ := newArrB_sound h hcap (hcm hmx) he
        rw [hdd]
        exact ⟨st', hR, S, β', hs⟩
      obtain ⟨st', he, hR⟩ := onSt_iff (h3 w.heap.size h.n)
      let wn := bytesWorld w el s cap
      have hsz : wn.heap.size = w.heap.size + 1 := by
        show (World.freeze _ _ _).heap.size = _
        rw [freeze_size]
        simp
      have hblock : ∀ k, k < w.heap.size → wn.heap[k]? = w.heap[k]? := by
        intro k hk
        show (World.freeze _ _ _).heap[k]? = _
        rw [freeze_heap (by omega), Go.RowKit.Below.heap_alloc _ _ _ (by simpa using hk)]
        rfl
      have hbel : Go.RowKit.Below w.heap.size w wn := by
        refine ⟨?_, ?_, ?_, by omega, hblock⟩ <;> (show _ = _; simp only [wn, bytesWorld, World.freeze]; split <;> rfl)
      have hcell : ∀ i (hi : i < s.data.size), wn.cell? ⟨w.heap.size, i, none⟩ = some (.int .u8 (s.data[i]).toNat) := by
        intro i hi
        show (World.freeze _ _ _).cell? _ = _
        rw [freeze_cell]
        have : w.drew.heap.size = w.heap.size := rfl
        rw [← this, World.cell?_alloc_new, Array.getElem?_append_left (by simpa using hi), Array.getElem?_map, Array.getElem?_eq_getElem hi]
        rfl
      have hs := h.fresh hbel (by omega)
      refine ⟨st', hR, _, _, hs.put (x := .d (.sl (.blk w.heap.size) (bytesT s))) (.d ?_) trivial he⟩
      have hlen : s.size = (bytesT s).length := by simp [bytesT]
      rw [hlen]
      cases hb : bytesT s with
      | nil => exact .nil _ _ _
      | cons y ys =>
        rw [← hb]
        refine .sl _ _ w.heap.size 0 1 cap (fun i _ => .int .u8 ((s.data[i]?).getD 0).toNat) rfl (by simp) Nat.one_pos ?_ (by rw [← hlen]; exact hcap) (fun _ _ _ _ => .inr rfl) ?_ ?_
        · intro e he
          simp only [bytesT, List.mem_map] at he
          obtain ⟨_, _, rfl⟩ := he
          rfl
        · intro i j hi hj
          have hi' : i < s.data.size := by simpa [bytesT] using hi
          have hj' : j = 0 := by simpa [bytesT] using hj
          subst hj'
          rw [show 0 + i * 1 + 0 = i by omega, hcell i hi', Array.getElem?_eq_getElem hi']
          rfl
        · intro i j hi hj
          have hi' : i < s.data.size := by simpa [bytesT] using hi
          have hj' : j = 0 := by simpa [bytesT] using hj
          subst hj'
          simp only [bytesT, List.getElem_map, List.getElem_cons_zero, Array.getElem_toList]
          simp only [Array.getElem?_eq_getElem hi', Option.getD_some]
          exact .i _ _
  | makeSlice t l c => rw [hop] at e; exact amake_sound h hop e Q
  | buildSlice t len parts => rw [hop] at e; exact abuild_sound h hop e Q
  | slice t x lo hi mx =>
    rw [hop] at e
    cases mx with
    | some m => exact azero_sound h hop e Q
    | none =>
      simp only [aop] at e
      cases hx : evc st x with
      | own k =>
        rw [hx] at e
        rcases e with e | ⟨y, rfl, rfl, e⟩
        · exact asliceOwn_sound h hop hx e Q
        · exact areslice_sound h hop hx e Q
      | _ => rw [hx] at e; exact other e
  | _ => rw [hop] at e; exact other e
theorem gval_sound (h : Sim P X β0 w0 S0 st a w S β) {ops : Array Oper} {o : Oper} {g : Bool} (e : gval ops st o = some g) : Region.wanted o (yielded ops a.tmps) = g := by
  unfold gval at e
  unfold Region.wanted
  cases hg : o.guard with
  | none => rw [hg] at e; cases e; rfl
  | some jw =>
    obtain ⟨j, want⟩ := jw
    rw [hg] at e
    obtain ⟨oj, h1, e⟩ := ob_eq_some e
    obtain ⟨d, h2, e⟩ := ob_eq_some e
    have hr := (evc_sound h (.tmp d)).1
    generalize evc st (.tmp d) = tv at e hr
    cases tv with
    | d t =>
      cases t with
      | b b =>
        cases e
        have := rv_bool hr
        simp only [Act.eval] at this
        have hd : a.tmps[d]? = some (.bool b) := by
          rw [Array.getD_eq_getD_getElem?] at this
          cases hx : a.tmps[d]? with
          | none => rw [hx] at this; cases this
          | some x => rw [hx] at this; simpa using this
        have hy : yielded ops a.tmps j = some b := by simp [yielded, h1, h2, hd]
        simp only [hy]
        cases b <;> cases want <;> rfl
      | _ => cases e
    | tup vs =>
      cases vs with
      | cons _ _ => cases e
      | nil =>
        cases e
        simp only [Act.eval] at hr
        have hd : ∀ x, a.tmps[d]? = some x → x = .tuple #[] := by
          intro x hx
          rw [Array.getD_eq_getD_getElem?, hx, Option.getD_some] at hr
          cases hr with
          | @tup cs us hl hh =>
            have : us = #[] := Array.eq_empty_of_size_eq_zero (by simpa using hl.symm)
            rw [this]
        have hy : yielded ops a.tmps j = none := by
          unfold yielded
          simp only [h1, h2, Option.bind_some]
          cases hx : a.tmps[d]? with
          | none => rfl
          | some x => rw [hd x hx]
        simp only [hy]
        rfl
    | _ => cases e
def aw (P : Program) (c : Code) (Q : Exit → St → Prop) (st : St) : Prop :=
  ∀ (X : Nat → Prop) (β0 : Places) (w0 : World) (S0 : Stable) (a : Act) (w : World), SimE P X β0 w0 S0 st a w → c.wp P (fun e a' w' => ∃ st', Q e st' ∧ SimE P X β0 w0 S0 st' a' w') a w
def thn (K : St → Prop) (Q : Exit → St → Prop) : Exit → St → Prop
  | .normal, st => K st
  | e, st => Q e st
variable {Q : Exit → St → Prop}
theorem aw_seq_k {x y : Code} (h : ∀ K : St → Prop, (∀ st, aw P y Q st → K st) → aw P x (thn K Q) st) : aw P (.seq x y) Q st := by
  intro X β0 w0 S0 a w hs
  refine wp_seq (wp_mono (h (aw P y Q) (fun _ h => h) X β0 w0 S0 a w hs) ?_)
  rintro e a' w' ⟨st', hq, hs'⟩
  cases e with
  | normal => exact hq X β0 w0 S0 a' w' hs'
  | _ => exact ⟨st', hq, hs'⟩
theorem aw_cond {c : Operand} {x y : Code} {t : Bool} (hc : boolOfTV (evc st c) = some t) (h1 : t = true → aw P x Q st) (h2 : t = false → aw P y Q st) : aw P (.cond c x y) Q st := by
  intro X β0 w0 S0 a w hs
  obtain ⟨S, β, hs⟩ := hs
  have := boolOfTV_sound (evc_sound hs c).1 hc
  exact wp_cond_split this (fun e => h1 e X β0 w0 S0 a w ⟨S, β, hs⟩) (fun e => h2 e X β0 w0 S0 a w ⟨S, β, hs⟩)
def inB (id : Nat) (Q : Exit → St → Prop) : Exit → St → Prop
  | .exit id', st => if id' = id then Q .normal st else Q (.exit id') st
  | e, st => Q e st
theorem aw_block {id : Nat} {c : Code} (h : aw P c (inB id Q) st) : aw P (.block id c) Q st := by
  intro X β0 w0 S0 a w hs
  refine wp_block (wp_mono (h X β0 w0 S0 a w hs) ?_)
  rintro e a' w' ⟨st', hq, hs'⟩
  cases e with
  | exit id' =>
    simp only [inB, Exit.inBlock] at hq ⊢
    split
    · rename_i he; rw [if_pos he] at hq; exact ⟨st', hq, hs'⟩
    · rename_i he; rw [if_neg he] at hq; exact ⟨st', hq, hs'⟩
  | _ => exact ⟨st', hq, hs'⟩
theorem aw_skip (h : Q .normal st) : aw P .skip Q st := fun _ _ _ _ _ _ hs => wp_skip ⟨st, h, hs⟩
theorem aw_exit {id : Nat} (h : Q (.exit id) st) : aw P (.exit id) Q st := fun _ _ _ _ _ _ hs => wp_exit ⟨st, h, hs⟩
theorem aw_ret (h : Q .ret st) : aw P .ret Q st := fun _ _ _ _ _ _ hs => wp_ret ⟨st, h, hs⟩
def SLe (P : Program) (s1 s : St) : Prop := ∀ (X : Nat → Prop) (β0 : Places) (w0 : World) (S0 : Stable) (a : Act) (w : World), SimE P X β0 w0 S0 s a w → SimE P X β0 w0 S0 s1 a w
theorem SLe.refl (s : St) : SLe P s s := fun _ _ _ _ _ _ h => h
theorem aw_weaken {c : Code} {s1 : St} (hl : SLe P s1 st) (h : aw P c Q s1) : aw P c Q st := fun X β0 w0 S0 a w hs => h X β0 w0 S0 a w (hl X β0 w0 S0 a w hs)
inductive TVLe : TV → TV → Prop where
  | refl (x : TV) : TVLe x x
  | unk (x : TV) : TVLe x .unk
  | d {t t' : T} (h : TLe t t') : TVLe (.d t) (.d t')
  | nl {A : Ann} : TVLe .nl (.d (.sl A []))
  | agg {cs ds : List TV} (hl : cs.length = ds.length) (h : ∀ i (hi : i < cs.length) (hj : i < ds.length), TVLe cs[i] ds[i]) : TVLe (.agg cs) (.agg ds)
theorem RV.forget {x y : TV} (hle : TVLe x y) : ∀ {v : Value}, RV P w S β x v → RV P w S β y v := by
  induction hle with
  | refl => exact fun h => h
  | unk => exact fun _ => .unk _
  | d h => exact fun hr => .d ((rv_d hr).weaken h)
  | nl => intro v hr; cases hr; exact .d (.nil _ _ _)
  | agg hl h ih =>
    intro v hr
    cases hr with
    | agg hl2 hr => exact .agg (by omega) fun i hi hj => ih i (by omega) hi (hr i (by omega) hj)
inductive OLe : Obj → Obj → Prop where
  | refl (o : Obj) : OLe o o
  | box {cs ds : List TV} (hl : cs.length = ds.length) (h : ∀ i (hi : i < cs.length) (hj : i < ds.length), TVLe cs[i] ds[i]) {ty : Option TypeId} : OLe (.box cs ty) (.box ds ty)
  | arr {A A' : Ann} {m : Nat} {es es' : List (List T)} (hA : ∀ x, A.has x → A'.has x) (hAt : ∀ q, A' = .tok q → A = .tok q) (hl : es.length = es'.length) (hl2 : ∀ i (hi : i < es.length) (hi' : i < es'.length), es[i].length = es'[i].length)
      (h : ∀ i j (hi : i < es.length) (hi' : i < es'.length) (hj : j < es[i].length) (hj' : j < es'[i].length), TLe es[i][j] es'[i][j]) (ht : ∀ t, A'.tag = some t → A.tag = some t) : OLe (.arr A m es) (.arr A' m es')
theorem OLe.wr {o o' : Obj} (h : OLe o o') : o'.writable = o.writable := by cases h <;> rfl
theorem SLe.of {s1 s : St} (ht : ∀ i tv, lk i s1.t = some tv → tv.ok (· ∈ s1.ks) ∧ ∃ x, lk i s.t = some x ∧ TVLe x tv) (ho : ∀ k ob, lk k s1.o = some ob → ob.okO (· ∈ s1.ks) ∧ k ∈ s1.ks ∧ ∃ x, lk k s.o = some x ∧ OLe x ob)
    (hn : s1.n ≤ s.n) (hz : s1.sz = s.sz) (hu : s1.u = s.u) (hg : s1.g = s.g := by rfl) : SLe P s1 s := by
  rintro X β0 w0 S0 a w ⟨S, β, h⟩
  refine ⟨S, β, h.kn, h.dfr, by rw [hz]; exact h.size, ?_, ?_, ?_, ?_, ?_, h.bnd, h.sub, h.new, h.below, Nat.le_trans hn h.n, h.fix, ?_, by rw [hg]; exact h.tk⟩
  · intro i tv hl
    obtain ⟨h2, x, h1, h3⟩ := ht i tv hl
    obtain ⟨v, hv, hr, _⟩ := h.tmps i x h1
    exact ⟨v, hv, hr.forget h3, h2⟩
  · intro k ob hl
    obtain ⟨h2, h3, x, h1, h4⟩ := ho k ob hl
    refine ⟨?_, h2, h3⟩
    have hov := (h.objs k x h1).1
    cases h4 with
    | refl => exact hov
    | box hl hh =>
      cases hov with
      | box hv hb hl2 hr ht => exact .box hv hb (by omega) (fun i hi hj => (hr i (by omega) hj).forget (hh i (by omega) hi)) ht
    | @arr A A' m es es' hA hAt hl hl2 hh htg =>
      cases hov with
      | arrN hv hm h0 hlen hcap =>
        have : es' = [] := List.eq_nil_of_length_eq_zero (by simpa using hl.symm)
        subst this
        exact .arrN hv hm h0 hlen hcap
      | arr hv hb hA2 hm h0 hlen hcap hmax hsz ha hty hfr =>
        refine .arr hv hb ⟨hA _ hA2.1, fun q e => hA2.2 q (hAt q e)⟩ hm h0 (by omega) (by omega) hmax hsz ⟨?_, ?_⟩ (fun t h => hty t (htg t h)) ⟨hfr.1, fun t h => hfr.2 t (htg t h)⟩
        · intro e he
          obtain ⟨i, hi, rfl⟩ := List.mem_iff_getElem.1 he
          rw [← hl2 i (by omega) hi]
          exact ha.hm _ (List.getElem_mem _)
        · intro i j hi hj
          have hi' : i < es.length := by omega
          have hj' : j < es[i].length := by rw [hl2 i hi' hi]; exact hj
          obtain ⟨v, g1, g2⟩ := ha.cell i j hi' hj'
          exact ⟨v, g1, g2.weaken (hh i j hi' hi hj' hj)⟩
  · intro k ob hl
    obtain ⟨h2, h3, x, h1, h4⟩ := ho k ob hl
    rw [h4.wr]; exact h.own k x h1
  · intro k k' ob ob' h1 h2
    obtain ⟨_, _, x, g1, _⟩ := ho k ob h1
    obtain ⟨_, _, x', g2, _⟩ := ho k' ob' h2
    exact h.inj k k' x x' g1 g2
  · intro k ob hl
    obtain ⟨h2, h3, x, h1, h4⟩ := ho k ob hl
    rw [h4.wr]; exact h.sep k x h1
  · intro b z hz
    rw [hu] at hz
    obtain ⟨a1, a2, a3, a4⟩ := h.gh b z hz
    refine ⟨a1, a2, fun k ob hl => ?_, a4⟩
    obtain ⟨_, _, x, h1, _⟩ := ho k ob hl
    exact a3 k x h1
end
end Go.Av
end
section
set_option linter.unusedSectionVars false
namespace Go.Av
section
variable [Known] {P : Program} {X : Nat → Prop} {β0 : Places} {w0 w w' : World} {S0 S S' : Stable} {st st' : St} {a : Act} {β β' : Places}
def argT : Nat → List TV → List (Nat × TV)
  | _, [] => []
  | i, x :: xs => (i, x) :: argT (i + 1) xs
def init (ins : Objs) (args : List TV) (sz n : Nat) : St := { t := argT 0 args, o := ins, ks := keysOf ins, n := n, sz := sz, u := noU }
def ares (P : Program) (st : St) : List ResultVar → Option (List TV)
  | [] => some []
  | .tmp t :: l => ob (ares P st l) fun r => some (evc st (.tmp t) :: r)
  | .cell x t :: l => ob (tyAgg P t) fun ag => ob (loadAt ag (tySize P t) st (evc st (.tmp x))) fun v => ob (ares P st l) fun r => some (v :: r)
def afin : List TV → TV
  | [x] => x
  | l => .tup l
def LeL (P : Program) (st : St) (xs ys : List TV) : Prop := xs.length = ys.length ∧ ∀ i (hi : i < xs.length) (hj : i < ys.length), Le P st xs[i] ys[i]
def afinish2 (P : Program) (ik : List Nat) (st : St) (post : Nat → TV → Objs → Prop) : Option (List TV) → Prop
  | some rs => ∃ (fk : List Nat) (outs : Objs) (rs' : List TV), LeL P (frz st fk) rs rs' ∧ okL (· ∈ keysOf outs) rs' ∧
      (∀ k ob, lk k outs = some ob → ob.okO (· ∈ keysOf outs) ∧ (k < 40 → k ∈ ik) ∧ ∃ x, lk k (frz st fk).o = some x ∧ OLe x ob) ∧ ∀ n, st.n ≤ n → post n (afin rs') outs
  | none => False
def afinish (P : Program) (ik : List Nat) (rv : List ResultVar) (st : St) (post : Nat → TV → Objs → Prop) : Prop := afinish2 P ik st post (ares P st rv)
def fin (P : Program) (ik : List Nat) (rv : List ResultVar) (post : Nat → TV → Objs → Prop) : Exit → St → Prop
  | .normal, st => afinish P ik rv st post
  | .ret, st => afinish P ik rv st post
  | _, _ => False
theorem lk_argT : ∀ (l : List TV) (i j : Nat) (tv : TV), lk j (argT i l) = some tv → i ≤ j ∧ l[j - i]? = some tv := by
  intro l
  induction l with
  | nil => intro i j tv h; cases h
  | cons x l ih =>
    intro i j tv h
    by_cases hj : j = i
    · subst hj
      simp only [argT, lk_cons_eq] at h
      cases h
      simp
    · simp only [argT, lk_cons_ne _ _ hj] at h
      obtain ⟨h1, h2⟩ := ih (i + 1) j tv h
      refine ⟨by omega, ?_⟩
      rw [show j - i = (j - (i + 1)) + 1 by omega]
      simpa using h2
def resOne (tmps : Array Value) : ResultVar → Sem Value
  | .tmp t => pure (tmps.getD t undef)
  | .cell x t => do loadVar t (← asAddr (tmps.getD x undef))
theorem results_eq (fn : Func) (tmps : Array Value) : results fn tmps = (do
    let vs ← fn.results.mapM (resOne tmps)
    pure (if h : vs.size = 1 then vs[0] else .tuple vs)) := by
  unfold results
  congr 1
theorem run_ares (h : Sim P X β0 w0 S0 st a w S β) : ∀ (l : List ResultVar) (rs : List TV), ares P st l = some rs →
    ∃ vs : List Value, (l.mapM (resOne a.tmps)).run P w = .ok vs w ∧ rs.length = vs.length ∧
      (∀ i (hi : i < rs.length) (hj : i < vs.length), RV P w S β rs[i] vs[i]) ∧ okL (· ∈ st.ks) rs := by
  intro l
  induction l with
  | nil => intro rs e; cases e; exact ⟨[], rfl, rfl, fun i hi => absurd hi (by simp), trivial⟩
  | cons r l ih =>
    intro rs e
    have key : ∀ (x : TV) (v : Value) (rs' : List TV), RV P w S β x v → x.ok (· ∈ st.ks) → ares P st l = some rs' → rs = x :: rs' →
        (resOne a.tmps r).run P w = .ok v w →
        ∃ vs : List Value, ((r :: l).mapM (resOne a.tmps)).run P w = .ok vs w ∧ rs.length = vs.length ∧
          (∀ i (hi : i < rs.length) (hj : i < vs.length), RV P w S β rs[i] vs[i]) ∧ okL (· ∈ st.ks) rs := by
      rintro x v rs' hr ho hrs rfl hrun
      obtain ⟨vs, h1, h2, h3, h4⟩ := ih rs' hrs
      refine ⟨v :: vs, ?_, by simp [h2], ?_, ho, h4⟩
      · simp only [List.mapM_cons, Sem.run_bind, hrun, Result.andThen_ok, h1, Sem.run_pure]
      · intro i hi hj
        cases i with
        | zero => simpa using hr
        | succ i => simpa using h3 i (by simpa using hi) (by simpa using hj)
    cases r with
    | tmp t =>
      simp only [ares] at e
      obtain ⟨rs', hrs, e⟩ := ob_eq_some e
      exact key _ _ rs' (evc_sound h (.tmp t)).1 (evc_sound h (.tmp t)).2 hrs (by cases e; rfl) rfl
    | cell x t =>
      simp only [ares] at e
      obtain ⟨ag, hag, e⟩ := ob_eq_some e
      obtain ⟨v, hv, e⟩ := ob_eq_some e
      obtain ⟨rs', hrs, e⟩ := ob_eq_some e
      obtain ⟨u, hu, hr, ho⟩ := loadAt_sound h hag (evc_sound h (.tmp x)).1 hv
      refine key v u rs' hr ho hrs (by cases e; rfl) ?_
      have ha : a.eval (.tmp x) = a.tmps.getD x undef := rfl
      rw [ha] at hu
      simp only [resOne, Sem.run_bind]
      generalize a.tmps.getD x undef = z at hu
      cases z with
      | pointer p =>
        cases p with
        | some p => simpa [asAddr, Instr.loadAt, Instr.sureAddr] using hu
        | none => simp [Instr.loadAt, Instr.sureAddr] at hu
      | _ => simp [Instr.loadAt, Instr.sureAddr] at hu
def bndTV (n : Nat) : TV → TV
  | .d t => .d (t.ann (.sat (· < n)))
  | .agg cs => .agg (cs.attach.map fun x => bndTV n x.1)
  | x => x
termination_by x => SizeOf.sizeOf x
decreasing_by
  have := List.sizeOf_lt_of_mem x.2
  simp
  omega
theorem RV.bnd (hS : ∀ b x, S b x → b < w.heap.size) {tv : TV} {v : Value} (h : RV P w S β tv v) : RV P w S β (bndTV w.heap.size tv) v := by
  induction h with
  | d h => rw [bndTV]; exact .d (h.bound hS)
  | @agg cs vs hl h ih =>
    rw [bndTV]
    refine .agg (by simpa using hl) fun i hi hj => ?_
    simp only [List.getElem_map, List.getElem_attach]
    exact ih i (by simpa using hi) hj
  | unk v => rw [bndTV] <;> first | exact .unk v | (intro _ h; cases h)
  | nl a => rw [bndTV] <;> first | exact .nl a | (intro _ h; cases h)
  | tup hl h => rw [bndTV] <;> first | exact .tup hl h | (intro _ h; cases h)
  | ptr k off => rw [bndTV] <;> first | exact .ptr k off | (intro _ h; cases h)
  | own k a ha => rw [bndTV] <;> first | exact .own k a ha | (intro _ h; cases h)
  | ap k i f => rw [bndTV] <;> first | exact .ap k i f | (intro _ h; cases h)
  | rp hs hc hr => rw [bndTV] <;> first | exact .rp hs hc hr | (intro _ h; cases h)
  | clo hl h => rw [bndTV] <;> first | exact .clo hl h | (intro _ h; cases h)
  | fn h => rw [bndTV] <;> first | exact .fn h | (intro _ h; cases h)
theorem OV.forget {o o' : Obj} (hle : OLe o o') {k : Nat} (hov : OV P w S β k o) : OV P w S β k o' := by
  cases hle with
  | refl => exact hov
  | box hl hh =>
    cases hov with
    | box hv hb hl2 hr ht => exact .box hv hb (by omega) (fun i hi hj => (hr i (by omega) hj).forget (hh i (by omega) hi)) ht
  | @arr A A' m es es' hA hAt hl hl2 hh htg =>
    cases hov with
    | arrN hv hm h0 hlen hcap =>
      have : es' = [] := List.eq_nil_of_length_eq_zero (by simpa using hl.symm)
      subst this
      exact .arrN hv hm h0 hlen hcap
    | arr hv hb hA2 hm h0 hlen hcap hmax hsz ha hty hfr =>
      refine .arr hv hb ⟨hA _ hA2.1, fun q e => hA2.2 q (hAt q e)⟩ hm h0 (by omega) (by omega) hmax hsz ⟨?_, ?_⟩ (fun t h => hty t (htg t h)) ⟨hfr.1, fun t h => hfr.2 t (htg t h)⟩
      · intro e he
        obtain ⟨i, hi, rfl⟩ := List.mem_iff_getElem.1 he
        rw [← hl2 i (by omega) hi]
        exact ha.hm _ (List.getElem_mem _)
      · intro i j hi hj
        have hi' : i < es.length := by omega
        have hj' : j < es[i].length := by rw [hl2 i hi' hi]; exact hj
        obtain ⟨v, g1, g2⟩ := ha.cell i j hi' hj'
        exact ⟨v, g1, g2.weaken (hh i j hi' hi hj' hj)⟩
def gZ (z : Bool) (st : St) : St := match z with
  | false => st
  | true => { t := st.t, o := st.o, ks := st.ks, n := st.n, sz := st.sz, u := st.u, g := some (0, false) }
theorem ACz.of {z : Bool} {f : FuncId} {fn : Func} {c : Code} {ins : Objs} {args : List TV} {post : Nat → Nat → TV → Objs → Prop} (hf : P.funcs[f]? = some fn) (hb : fn.body = some c) (hz : args.length ≤ fn.ntmps) (h40 : ∀ k, k ∈ keysOf ins → k < 40)
    (hzi : z = true → ins = [])
    (h : ∀ n0, aw P c (fun e s => ((z = false → s.g = none) ∧ gfl s.g = false) ∧ fin P (keysOf ins) fn.results.toList (post n0) e s) (gZ z (init ins args fn.ntmps n0))) : ACz z P f ins args post := by
  intro w S β vs hzt hbnd hkn hl hr ho hth
  refine calls_of_wp hf hb ?_
  have hs0 : Sim P (InX ins β) β w S (init ins args fn.ntmps w.heap.size) { tmps := vs ++ Array.replicate (fn.ntmps - vs.size) undef, defers := [] } w S β := by
    refine ⟨hkn, rfl, by simp [init]; omega, ?_, ?_, ?_, ?_, ?_, hbnd, fun _ _ h => h, fun _ _ h => .inl h, BelowX.refl _ _ _, Nat.le_refl _, fun _ _ => rfl, ?_, fun _ _ => Iff.rfl⟩
    · intro i tv hlk
      obtain ⟨_, h2⟩ := lk_argT args 0 i tv hlk
      rw [Nat.sub_zero] at h2
      obtain ⟨hi, rfl⟩ := List.getElem?_eq_some_iff.1 h2
      have hi2 : i < vs.size := by omega
      refine ⟨vs[i], ?_, hr i hi hi2, okL_get ho i hi⟩
      rw [Array.getElem?_append_left hi2]
      exact Array.getElem?_eq_getElem hi2
    · intro k ob hk; exact ⟨(hth.objs k ob hk).1, (hth.objs k ob hk).2, lk_keys hk⟩
    · intro k ob hk x hx; exact .inl ⟨h40 k (lk_keys hk), fun hw => ⟨k, ob, hk, hw, hx⟩⟩
    · exact hth.inj
    · exact hth.sep
    · intro b z hz; cases hz
  have hs : Sim P (InX ins β) β w S (gZ z (init ins args fn.ntmps w.heap.size)) { tmps := vs ++ Array.replicate (fn.ntmps - vs.size) undef, defers := [] } w S β := by
    cases z with
    | false => exact hs0
    | true =>
      refine ⟨hs0.kn, hs0.dfr, hs0.size, hs0.tmps, hs0.objs, hs0.own, hs0.inj, hs0.sep, hs0.bnd, hs0.sub, hs0.new, hs0.below, hs0.n, hs0.fix, hs0.gh, ⟨?_, hzt rfl⟩, fun b hb => absurd hb (hzt rfl _ b), ?_, ?_, ?_⟩
      · obtain rfl := hzi rfl
        rintro x ⟨k, ob, hk, _⟩
        cases hk
      · exact fun q b hq => absurd hq.2 (hzt rfl q b)
      · exact fun q b b' hq => absurd hq.2 (hzt rfl q b)
      · exact fun q q' b hq => absurd hq.2 (hzt rfl q b)
  refine wp_mono (h w.heap.size (InX ins β) β w S _ w ⟨S, β, hs⟩) ?_
  have main : ∀ (a' : Act) (w' : World) (st' : St), ((z = false → st'.g = none) ∧ gfl st'.g = false) → afinish P (keysOf ins) fn.results.toList st' (post w.heap.size) → SimE P (InX ins β) β w S st' a' w' →
      a'.defers = [] ∧ ∃ v, (results fn a'.tmps).run P w' = .ok v w' ∧ (∃ r v' S' β' outs, Ending.returned v = .returned v' ∧ post w.heap.size w'.heap.size r outs ∧ RV P w' S' β' r v' ∧ r.ok (· ∈ keysOf outs) ∧
        There P w' S' β' outs ∧ (∀ k, k < 40 → β' k = β k) ∧ (∀ k ob, lk k outs = some ob → ∀ x, foot (β' k) x → (k < 40 ∧ (ob.writable = true → InX ins β x)) ∨ InX ins β x ∨ w.heap.size ≤ x) ∧
        (∀ k ob, lk k outs = some ob → k < 40 → k ∈ keysOf ins) ∧ ExtX z (InX ins β) w S w' S') := by
    rintro a' w' st' hzg hfin ⟨S', β', hs'⟩
    unfold afinish at hfin
    cases hrs : ares P st' fn.results.toList with
    | none => rw [hrs] at hfin; exact hfin.elim
    | some rs =>
      rw [hrs] at hfin
      obtain ⟨fk, outs, rs', ⟨hl1, hle⟩, hok', houts, hpost⟩ := hfin
      obtain ⟨us, hrun, hl2, hru, hok⟩ := run_ares hs' _ rs hrs
      obtain ⟨S2, hk2, h2⟩ := hs'.frz fk
      have hle' : ∀ i (hi : i < rs'.length) (hj : i < us.length), RV P w' S2 β' rs'[i] us[i] := by
        intro i hi hj
        exact (hle i (by omega) hi).sound h2 ((hru i (by omega) hj).keeps hk2 (TV.ok_mono (fun _ _ => rfl) (okL_get hok i (by omega))))
      have hres : (results fn a'.tmps).run P w' = .ok (if h : us.toArray.size = 1 then us.toArray[0] else .tuple us.toArray) w' := by
        rw [results_eq, Array.mapM_eq_mapM_toList]
        simp only [Sem.run_bind, Sem.run_map, hrun, Result.andThen_ok, Sem.run_pure]
      have hth' : There P w' S2 β' outs := by
        refine ⟨fun k ob hk => ?_, fun k k' ob ob' hk hk' => ?_, fun k ob hk hw => ?_⟩
        · obtain ⟨g1, _, x, g2, g3⟩ := houts k ob hk
          exact ⟨(h2.objs k x g2).1.forget g3, g1⟩
        · obtain ⟨_, _, x, g2, _⟩ := houts k ob hk
          obtain ⟨_, _, x', g2', _⟩ := houts k' ob' hk'
          exact h2.inj k k' x x' g2 g2'
        · obtain ⟨_, _, x, g2, g3⟩ := houts k ob hk
          rw [g3.wr] at hw
          exact h2.sep k x g2 hw
      refine ⟨hs'.dfr, _, hres, afin rs', _, S2, β', outs, rfl, hpost _ hs'.n, ?_, ?_, hth', h2.fix, ?_, fun k ob hk => (houts k ob hk).2.1, ⟨⟨h2.sub, h2.new, h2.bnd, h2.below⟩, ?_⟩⟩
      · match rs', us, hl1, hl2, hle' with
        | [x], [u], _, _, hle' => exact hle' 0 (by simp) (by simp)
        | [], [], _, _, _ => exact .tup (cs := []) rfl (fun i hi => absurd hi (by simp))
        | x :: y :: l, u :: v :: m, e1, e2, hle' =>
          refine .tup (cs := x :: y :: l) (vs := (u :: v :: m).toArray) (by simp at e1 e2 ⊢; omega) ?_
          intro i hi hj
          simpa using hle' i hi (by simpa using hj)
        | [x], [], e1, e2, _ => exact absurd (e1.symm.trans e2) (by simp)
        | [x], _ :: _ :: _, e1, e2, _ => exact absurd (e1.symm.trans e2) (by simp)
        | [], _ :: _, e1, e2, _ => exact absurd (e1.symm.trans e2) (by simp)
        | _ :: _ :: _, [], e1, e2, _ => exact absurd (e1.symm.trans e2) (by simp)
        | _ :: _ :: _, [_], e1, e2, _ => exact absurd (e1.symm.trans e2) (by simp)
      · have hall : ∀ x ∈ rs', x.ok (· ∈ keysOf outs) := okL_iff.1 hok'
        match rs', hall with
        | [x], hall => exact hall x (by simp)
        | [], _ => exact trivial
        | x :: y :: l, hall => show okL _ _; rw [okL_iff]; exact hall
      · intro k ob hk x hx
        obtain ⟨_, _, y, g2, g3⟩ := houts k ob hk
        rw [g3.wr]
        exact h2.own k y g2 x hx
      · have htk := h2.tk
        have hgf : ∀ (l : List Nat) (s : St), s.g = none → (Av.frz s l).g = none := by
          intro l
          induction l with
          | nil => exact fun s hs => hs
          | cons k l ih =>
            intro s hs
            refine ih _ ?_
            cases lk k s.o with
            | none => exact hs
            | some o => cases o <;> simp [Av.frz1, bumpO, hs, bump]
        have hgb : ∀ (l : List Nat) (s : St), gfl (Av.frz s l).g = gfl s.g := by
          intro l
          induction l with
          | nil => exact fun s => rfl
          | cons k l ih =>
            intro s
            rw [Av.frz, ih]
            cases lk k s.o with
            | none => rfl
            | some o => cases o <;> simp only [Av.frz1, bumpO] <;> cases s.g <;> rfl
        cases hz : z with
        | false =>
          rw [hgf fk st' (hzg.1 hz)] at htk
          exact htk
        | true =>
          cases hg : (Av.frz st' fk).g with
          | none =>
            rw [hg] at htk
            have hno : ∀ q b, ¬ S2.t q b := fun q b hq => hzt hz q b ((htk q b).1 hq)
            exact ⟨fun q b hq => absurd hq (hno q b), fun q b b' hq => absurd hq (hno q b), fun q q' b hq => absurd hq (hno q b)⟩
          | some na =>
            obtain ⟨n, a0⟩ := na
            rw [hg] at htk
            have ha0 : a0 = false := by have := hgb fk st'; rw [hg, hzg.2] at this; exact this
            have hne : ∀ q b, S2.t q b → S2.ne.t q b := fun q b hq => ⟨fun e => by subst e; have := (htk.2.1 b hq).1; rw [ha0] at this; exact absurd this (by simp), hq⟩
            exact ⟨fun q b hq => let ⟨_, a2⟩ := htk.2.2.new q b (hne q b hq); ⟨(hne q b hq).1, a2⟩, fun q b b' h1 h2 => htk.2.2.i1 q b b' (hne _ _ h1) (hne _ _ h2), fun q q' b h1 h2 => htk.2.2.i2 q q' b (hne _ _ h1) (hne _ _ h2)⟩
  rintro e a' w' ⟨st', ⟨hzg, hq⟩, hs'⟩
  cases e with
  | normal => exact main a' w' st' hzg hq hs'
  | ret => exact main a' w' st' hzg hq hs'
  | _ => exact hq.elim
end
end Go.Av
end
section
set_option linter.unusedSectionVars false
namespace Go.Av
mutual
def T.cn (p : Tok) : T → T
  | .b x => .b x
  | .i k x => .i k x
  | .s x => .s x
  | .raw v => .raw v
  | .sl _ es => .sl (.tok p) (cnEs p 0 es)
def cnEs (p : Tok) : Nat → List (List T) → List (List T)
  | _, [] => []
  | i, e :: es => cnCs (p ++ [i]) 0 e :: cnEs p (i + 1) es
def cnCs (p : Tok) : Nat → List T → List T
  | _, [] => []
  | j, t :: ts => t.cn (p ++ [j]) :: cnCs p (j + 1) ts
end
mutual
def TV.cn (p : Tok) : TV → TV
  | .unk => .unk
  | .d t => .d (t.cn p)
  | .nl => .nl
  | .agg cs => .agg (cnL p 0 cs)
  | .tup cs => .tup (cnL p 0 cs)
  | .ptr k o => .ptr k o
  | .own k => .own k
  | .ap k i f => .ap k i f
  | .rp cs => .rp cs
  | .clo f cap => .clo f cap
  | .fn g => .fn g
def cnL (p : Tok) : Nat → List TV → List TV
  | _, [] => []
  | i, x :: xs => x.cn (p ++ [i]) :: cnL p (i + 1) xs
end
def cnO : Objs → Objs
  | [] => []
  | (k, .arr A m es) :: l => (k, .arr A m (cnEs [1, k] 0 es)) :: cnO l
  | (k, .box cs ty) :: l => (k, .box cs ty) :: cnO l
  | (k, .fz A m es) :: l => (k, .fz A m es) :: cnO l
def annTok : Ann → List (List T) → List (Option Tok)
  | .tok q, _ => [some q]
  | .any, [] => []
  | .any, _ :: _ => [none]
  | .blk _ _, _ => [none]
  | .sat _, _ => [none]
  | .u8 _, _ => [none]
  | .nilA, _ => [none]
mutual
def prT (p : Tok) : T → List (Tok × Option Tok)
  | .b _ => []
  | .i _ _ => []
  | .s _ => []
  | .raw _ => []
  | .sl A es => (annTok A es).map (fun x => (p, x)) ++ prEs p 0 es
def prEs (p : Tok) : Nat → List (List T) → List (Tok × Option Tok)
  | _, [] => []
  | i, e :: es => prCs (p ++ [i]) 0 e ++ prEs p (i + 1) es
def prCs (p : Tok) : Nat → List T → List (Tok × Option Tok)
  | _, [] => []
  | j, t :: ts => prT (p ++ [j]) t ++ prCs p (j + 1) ts
end
mutual
def prTV (p : Tok) : TV → List (Tok × Option Tok)
  | .unk => []
  | .d t => prT p t
  | .nl => []
  | .agg cs => prL p 0 cs
  | .tup cs => prL p 0 cs
  | .ptr _ _ => []
  | .own _ => []
  | .ap _ _ _ => []
  | .rp _ => []
  | .clo _ _ => []
  | .fn _ => []
def prL (p : Tok) : Nat → List TV → List (Tok × Option Tok)
  | _, [] => []
  | i, x :: xs => prTV (p ++ [i]) x ++ prL p (i + 1) xs
end
def prO : Objs → List (Tok × Option Tok)
  | [] => []
  | (k, .arr _ _ es) :: l => prEs [1, k] 0 es ++ prO l
  | (_, .box _ _) :: l => prO l
  | (_, .fz _ _ _) :: l => prO l
mutual
def tkT : T → List (Option Tok)
  | .b _ => []
  | .i _ _ => []
  | .s _ => []
  | .raw _ => []
  | .sl A es => annTok A es ++ tkEs es
def tkEs : List (List T) → List (Option Tok)
  | [] => []
  | e :: es => tkCs e ++ tkEs es
def tkCs : List T → List (Option Tok)
  | [] => []
  | t :: ts => tkT t ++ tkCs ts
end
mutual
def tkTV : TV → List (Option Tok)
  | .unk => []
  | .d t => tkT t
  | .nl => []
  | .agg cs => tkL cs
  | .tup cs => tkL cs
  | .ptr _ _ => []
  | .own _ => []
  | .ap _ _ _ => []
  | .rp _ => []
  | .clo _ _ => []
  | .fn _ => []
def tkL : List TV → List (Option Tok)
  | [] => []
  | x :: xs => tkTV x ++ tkL xs
end
def tkO : Objs → List (Option Tok)
  | [] => []
  | (_, .arr _ _ es) :: l => tkEs es ++ tkO l
  | (_, .box _ _) :: l => tkO l
  | (_, .fz _ _ _) :: l => tkO l
def canOk (r : TV) (o : Objs) : Prop := (none ∉ tkTV r ++ tkO o ∧ (tkTV r ++ tkO o).Nodup) ∧ (flatTV r = true ∧ arrO o = true ∧ (keysOf o).Nodup)
theorem cnEs_eq (p : Tok) : ∀ (es : List (List T)) (i : Nat), cnEs p i es = es.mapIdx fun k e => cnCs (p ++ [i + k]) 0 e
  | [], _ => rfl
  | e :: es, i => by
    rw [cnEs, cnEs_eq p es (i + 1), List.mapIdx_cons]
    congr 1
    congr 1
    funext k e
    rw [show i + 1 + k = i + (k + 1) by omega]
theorem cnCs_eq (p : Tok) : ∀ (ts : List T) (j : Nat), cnCs p j ts = ts.mapIdx fun k t => t.cn (p ++ [j + k])
  | [], _ => rfl
  | t :: ts, j => by
    rw [cnCs, cnCs_eq p ts (j + 1), List.mapIdx_cons]
    congr 1
    congr 1
    funext k e
    rw [show j + 1 + k = j + (k + 1) by omega]
theorem cnL_eq (p : Tok) : ∀ (ts : List TV) (j : Nat), cnL p j ts = ts.mapIdx fun k t => t.cn (p ++ [j + k])
  | [], _ => rfl
  | t :: ts, j => by
    rw [cnL, cnL_eq p ts (j + 1), List.mapIdx_cons]
    congr 1
    congr 1
    funext k e
    rw [show j + 1 + k = j + (k + 1) by omega]
theorem pr_tk : (∀ n : Nat, (∀ (t : T) p, SizeOf.sizeOf t < n → (prT p t).map (·.2) = tkT t) ∧ (∀ (l : List T) p j, SizeOf.sizeOf l < n → (prCs p j l).map (·.2) = tkCs l) ∧ (∀ (l : List (List T)) p j, SizeOf.sizeOf l < n → (prEs p j l).map (·.2) = tkEs l)) := by
  intro n
  induction n with
  | zero => exact ⟨fun _ _ h => absurd h (Nat.not_lt_zero _), fun _ _ _ h => absurd h (Nat.not_lt_zero _), fun _ _ _ h => absurd h (Nat.not_lt_zero _)⟩
  | succ n ih =>
    refine ⟨fun t p h => ?_, fun l p j h => ?_, fun l p j h => ?_⟩
    · cases t with
      | sl A es =>
        simp at h
        rw [prT, tkT, List.map_append, ih.2.2 es p 0 (by omega), List.map_map]
        congr 1
        rw [show ((fun x : Tok × Option Tok => x.2) ∘ fun x => (p, x)) = id from rfl, List.map_id]
      | _ => rfl
    · cases l with
      | nil => rfl
      | cons t l =>
        simp at h
        rw [prCs, tkCs, List.map_append, ih.1 t _ (by omega), ih.2.1 l _ _ (by omega)]
    · cases l with
      | nil => rfl
      | cons t l =>
        simp at h
        rw [prEs, tkEs, List.map_append, ih.2.1 t _ _ (by omega), ih.2.2 l _ _ (by omega)]
theorem prT_tk (t : T) (p : Tok) : (prT p t).map (·.2) = tkT t := (pr_tk (SizeOf.sizeOf t + 1)).1 t p (by omega)
theorem prEs_tk (t : List (List T)) (p : Tok) (j : Nat) : (prEs p j t).map (·.2) = tkEs t := (pr_tk (SizeOf.sizeOf t + 1)).2.2 t p j (by omega)
theorem prTV_tk (n : Nat) : (∀ (t : TV) p, SizeOf.sizeOf t < n → (prTV p t).map (·.2) = tkTV t) ∧ (∀ (l : List TV) p j, SizeOf.sizeOf l < n → (prL p j l).map (·.2) = tkL l) := by
  induction n with
  | zero => exact ⟨fun _ _ h => absurd h (Nat.not_lt_zero _), fun _ _ _ h => absurd h (Nat.not_lt_zero _)⟩
  | succ n ih =>
    refine ⟨fun t p h => ?_, fun l p j h => ?_⟩
    · cases t with
      | d t => exact prT_tk t p
      | agg cs => simp at h; exact ih.2 cs p 0 (by omega)
      | tup cs => simp at h; exact ih.2 cs p 0 (by omega)
      | _ => rfl
    · cases l with
      | nil => rfl
      | cons t l =>
        simp at h
        rw [prL, tkL, List.map_append, ih.1 t _ (by omega), ih.2 l _ _ (by omega)]
theorem prO_tk (o : Objs) : (prO o).map (·.2) = tkO o := by
  induction o with
  | nil => rfl
  | cons p o ih =>
    obtain ⟨k, x⟩ := p
    cases x with
    | arr A m es => rw [prO, tkO, List.map_append, ih, prEs_tk]
    | _ => exact ih
def AtP (p : Tok) (L : List (Tok × Option Tok)) : Prop := ∀ x ∈ L, p <+: x.1
theorem not_both {p : Tok} {i k : Nat} {r q : Tok} {x : Tok} (h : i ≠ k) (h1 : p ++ [i] ++ r <+: x) (h2 : p ++ [k] ++ q <+: x) : False := by
  obtain ⟨a, rfl⟩ := h1
  obtain ⟨b, h2⟩ := h2
  simp only [List.append_assoc, List.append_cancel_left_eq, List.cons_append, List.nil_append, List.cons.injEq] at h2
  exact h h2.1.symm
def AtI (p : Tok) (i : Nat) (L : List (Tok × Option Tok)) : Prop := ∀ x ∈ L, ∃ k, i ≤ k ∧ p ++ [k] <+: x.1
theorem pre_trans {p : Tok} {k : Nat} {x : Tok} (h : p ++ [k] <+: x) : p <+: x := (List.prefix_append p [k]).trans h
theorem pr_at : (∀ n : Nat, (∀ (t : T) p, SizeOf.sizeOf t < n → AtP p (prT p t) ∧ ((prT p t).map (·.1)).Nodup) ∧ (∀ (l : List T) p j, SizeOf.sizeOf l < n → AtI p j (prCs p j l) ∧ ((prCs p j l).map (·.1)).Nodup) ∧
    (∀ (l : List (List T)) p j, SizeOf.sizeOf l < n → AtI p j (prEs p j l) ∧ ((prEs p j l).map (·.1)).Nodup)) := by
  intro n
  have join : ∀ (p : Tok) (j : Nat) (L M : List (Tok × Option Tok)), AtP (p ++ [j]) L → (L.map (·.1)).Nodup → AtI p (j + 1) M → (M.map (·.1)).Nodup → AtI p j (L ++ M) ∧ ((L ++ M).map (·.1)).Nodup := by
    intro p j L M h1 h2 h3 h4
    refine ⟨fun x hx => ?_, ?_⟩
    · rcases List.mem_append.1 hx with hx | hx
      · exact ⟨j, Nat.le_refl _, h1 x hx⟩
      · obtain ⟨k, g1, g2⟩ := h3 x hx
        exact ⟨k, by omega, g2⟩
    · rw [List.map_append, List.nodup_append]
      refine ⟨h2, h4, fun a ha b hb e => ?_⟩
      obtain ⟨x, hx, rfl⟩ := List.mem_map.1 ha
      obtain ⟨y, hy, rfl⟩ := List.mem_map.1 hb
      obtain ⟨k, g1, g2⟩ := h3 y hy
      rw [← e] at g2
      exact not_both (r := []) (q := []) (show j ≠ k by omega) (by rw [List.append_nil]; exact h1 x hx) (by rw [List.append_nil]; exact g2)
  induction n with
  | zero => exact ⟨fun _ _ h => absurd h (Nat.not_lt_zero _), fun _ _ _ h => absurd h (Nat.not_lt_zero _), fun _ _ _ h => absurd h (Nat.not_lt_zero _)⟩
  | succ n ih =>
    refine ⟨fun t p h => ?_, fun l p j h => ?_, fun l p j h => ?_⟩
    · cases t with
      | sl A es =>
        simp at h
        obtain ⟨h1, h2⟩ := ih.2.2 es p 0 (by omega)
        rw [prT]
        have hs : annTok A es = [] ∨ ∃ x, annTok A es = [x] := by
          cases A <;> first | exact .inr ⟨_, rfl⟩ | (cases es <;> first | exact .inl rfl | exact .inr ⟨_, rfl⟩)
        have hA : AtP p (prEs p 0 es) := fun x hx => let ⟨k, _, g⟩ := h1 x hx; pre_trans g
        rcases hs with hs | ⟨x, hs⟩
        · rw [hs]; exact ⟨hA, h2⟩
        · rw [hs]
          refine ⟨fun y hy => ?_, ?_⟩
          · rcases List.mem_cons.1 hy with rfl | hy
            · exact List.prefix_refl _
            · exact hA y hy
          · rw [List.map_append, List.nodup_append]
            refine ⟨by simp, h2, fun a ha b hb e => ?_⟩
            simp only [List.map_cons, List.map_nil, List.mem_singleton] at ha
            obtain ⟨y, hy, rfl⟩ := List.mem_map.1 hb
            obtain ⟨k, _, g⟩ := h1 y hy
            rw [← e, ha] at g
            have := g.length_le
            simp at this
            omega
      | _ => exact ⟨fun x hx => (by cases hx), List.nodup_nil⟩
    · cases l with
      | nil => exact ⟨fun x hx => (by cases hx), List.nodup_nil⟩
      | cons t l =>
        simp at h
        obtain ⟨h1, h2⟩ := ih.1 t (p ++ [j]) (by omega)
        obtain ⟨h3, h4⟩ := ih.2.1 l p (j + 1) (by omega)
        exact join p j _ _ h1 h2 h3 h4
    · cases l with
      | nil => exact ⟨fun x hx => (by cases hx), List.nodup_nil⟩
      | cons t l =>
        simp at h
        obtain ⟨h1, h2⟩ := ih.2.1 t (p ++ [j]) 0 (by omega)
        obtain ⟨h3, h4⟩ := ih.2.2 l p (j + 1) (by omega)
        exact join p j _ _ (fun x hx => let ⟨k, _, g⟩ := h1 x hx; pre_trans g) h2 h3 h4
theorem prTV_at : ∀ n : Nat, (∀ (t : TV) p, SizeOf.sizeOf t < n → AtP p (prTV p t) ∧ ((prTV p t).map (·.1)).Nodup) ∧ (∀ (l : List TV) p j, SizeOf.sizeOf l < n → AtI p j (prL p j l) ∧ ((prL p j l).map (·.1)).Nodup) := by
  intro n
  induction n with
  | zero => exact ⟨fun _ _ h => absurd h (Nat.not_lt_zero _), fun _ _ _ h => absurd h (Nat.not_lt_zero _)⟩
  | succ n ih =>
    refine ⟨fun t p h => ?_, fun l p j h => ?_⟩
    · cases t with
      | d t => exact (pr_at (SizeOf.sizeOf t + 1)).1 t p (by omega)
      | agg cs =>
        simp at h
        obtain ⟨h1, h2⟩ := ih.2 cs p 0 (by omega)
        exact ⟨fun x hx => let ⟨k, _, g⟩ := h1 x hx; pre_trans g, h2⟩
      | tup cs =>
        simp at h
        obtain ⟨h1, h2⟩ := ih.2 cs p 0 (by omega)
        exact ⟨fun x hx => let ⟨k, _, g⟩ := h1 x hx; pre_trans g, h2⟩
      | _ => exact ⟨fun x hx => (by cases hx), List.nodup_nil⟩
    · cases l with
      | nil => exact ⟨fun x hx => (by cases hx), List.nodup_nil⟩
      | cons t l =>
        simp at h
        obtain ⟨h1, h2⟩ := ih.1 t (p ++ [j]) (by omega)
        obtain ⟨h3, h4⟩ := ih.2 l p (j + 1) (by omega)
        rw [prL]
        refine ⟨fun x hx => ?_, ?_⟩
        · rcases List.mem_append.1 hx with hx | hx
          · exact ⟨j, Nat.le_refl _, h1 x hx⟩
          · obtain ⟨k, g1, g2⟩ := h3 x hx
            exact ⟨k, by omega, g2⟩
        · rw [List.map_append, List.nodup_append]
          refine ⟨h2, h4, fun a ha b hb e => ?_⟩
          obtain ⟨x, hx, rfl⟩ := List.mem_map.1 ha
          obtain ⟨y, hy, rfl⟩ := List.mem_map.1 hb
          obtain ⟨k, g1, g2⟩ := h3 y hy
          rw [← e] at g2
          exact not_both (r := []) (q := []) (show j ≠ k by omega) (by rw [List.append_nil]; exact h1 x hx) (by rw [List.append_nil]; exact g2)
theorem prO_at {o : Objs} (hn : (keysOf o).Nodup) : (∀ x ∈ prO o, ∃ k ∈ keysOf o, [1] ++ [k] <+: x.1) ∧ ((prO o).map (·.1)).Nodup := by
  induction o with
  | nil => exact ⟨fun x hx => (by cases hx), List.nodup_nil⟩
  | cons p o ih =>
    obtain ⟨k, x⟩ := p
    have hn' : k ∉ keysOf o ∧ (keysOf o).Nodup := List.nodup_cons.1 hn
    obtain ⟨h3, h4⟩ := ih hn'.2
    have h3' : ∀ x ∈ prO o, ∃ k' ∈ keysOf ((k, ‹Obj›) :: o), [1] ++ [k'] <+: x.1 := fun x hx => let ⟨k', g1, g2⟩ := h3 x hx; ⟨k', List.mem_cons_of_mem _ g1, g2⟩
    cases x with
    | arr A m es =>
      obtain ⟨h1, h2⟩ := (pr_at (SizeOf.sizeOf es + 1)).2.2 es [1, k] 0 (by omega)
      have h1' : ∀ x ∈ prEs [1, k] 0 es, [1] ++ [k] <+: x.1 := fun x hx => let ⟨j, _, g⟩ := h1 x hx; pre_trans g
      rw [prO]
      refine ⟨fun x hx => ?_, ?_⟩
      · rcases List.mem_append.1 hx with hx | hx
        · exact ⟨k, List.mem_cons_self .., h1' x hx⟩
        · obtain ⟨k', g1, g2⟩ := h3 x hx
          exact ⟨k', List.mem_cons_of_mem _ g1, g2⟩
      · rw [List.map_append, List.nodup_append]
        refine ⟨h2, h4, fun a ha b hb e => ?_⟩
        obtain ⟨x, hx, rfl⟩ := List.mem_map.1 ha
        obtain ⟨y, hy, rfl⟩ := List.mem_map.1 hb
        obtain ⟨k', g1, g2⟩ := h3 y hy
        rw [← e] at g2
        exact not_both (r := []) (q := []) (show k ≠ k' from fun e => hn'.1 (e ▸ g1)) (by rw [List.append_nil]; exact h1' x hx) (by rw [List.append_nil]; exact g2)
    | box cs ty => exact ⟨fun x hx => let ⟨k', g1, g2⟩ := h3 x hx; ⟨k', List.mem_cons_of_mem _ g1, g2⟩, h4⟩
    | fz A m es => exact ⟨fun x hx => let ⟨k', g1, g2⟩ := h3 x hx; ⟨k', List.mem_cons_of_mem _ g1, g2⟩, h4⟩
end Go.Av
end
section
set_option linter.unusedSectionVars false
namespace Go.Av
theorem nodup_inj {α β : Type} {f : α → β} : ∀ {l : List α}, (l.map f).Nodup → ∀ {x y : α}, x ∈ l → y ∈ l → f x = f y → x = y
  | [], _, _, _, h, _, _ => by cases h
  | a :: l, hn, x, y, hx, hy, e => by
    rw [List.map_cons, List.nodup_cons] at hn
    rcases List.mem_cons.1 hx with hx1 | hx1
    · rcases List.mem_cons.1 hy with hy1 | hy1
      · rw [hx1, hy1]
      · exact absurd (List.mem_map.2 ⟨y, hy1, by rw [← e, hx1]⟩) hn.1
    · rcases List.mem_cons.1 hy with hy1 | hy1
      · exact absurd (List.mem_map.2 ⟨x, hx1, by rw [e, hy1]⟩) hn.1
      · exact nodup_inj hn.2 hx1 hy1 e
theorem mem_prCs {p : Tok} {x : Tok × Option Tok} : ∀ {l : List T} {j k : Nat} (hk : k < l.length), x ∈ prT (p ++ [j + k]) l[k] → x ∈ prCs p j l
  | [], _, _, hk, _ => absurd hk (by simp)
  | t :: l, j, 0, _, h => List.mem_append_left _ h
  | t :: l, j, k + 1, hk, h => List.mem_append_right _ (mem_prCs (j := j + 1) (k := k) (by simpa using hk) (by rw [show j + 1 + k = j + (k + 1) by omega]; simpa using h))
theorem mem_prEs {p : Tok} {x : Tok × Option Tok} : ∀ {l : List (List T)} {j i k : Nat} (hi : i < l.length) (hk : k < l[i].length), x ∈ prT (p ++ [j + i] ++ [k]) l[i][k] → x ∈ prEs p j l
  | [], _, _, _, hi, _, _ => absurd hi (by simp)
  | e :: l, j, 0, k, _, hk, h => List.mem_append_left _ (mem_prCs (j := 0) (k := k) (by simpa using hk) (by simpa using h))
  | e :: l, j, i + 1, k, hi, hk, h => List.mem_append_right _ (mem_prEs (j := j + 1) (i := i) (k := k) (by simpa using hi) (by simpa using hk) (by rw [show j + 1 + i = j + (i + 1) by omega]; simpa using h))
theorem mem_prL {p : Tok} {x : Tok × Option Tok} : ∀ {l : List TV} {j k : Nat} (hk : k < l.length), x ∈ prTV (p ++ [j + k]) l[k] → x ∈ prL p j l
  | [], _, _, hk, _ => absurd hk (by simp)
  | t :: l, j, 0, _, h => List.mem_append_left _ h
  | t :: l, j, k + 1, hk, h => List.mem_append_right _ (mem_prL (j := j + 1) (k := k) (by simpa using hk) (by rw [show j + 1 + k = j + (k + 1) by omega]; simpa using h))
def reS (S : Stable) (L : List (Tok × Option Tok)) : Stable := ⟨S.c, fun p b => ∃ q, (p, some q) ∈ L ∧ S.t q b⟩
theorem cnEs_len (p : Tok) (es : List (List T)) (i : Nat) : (cnEs p i es).length = es.length := by rw [cnEs_eq]; simp
theorem cnCs_len (p : Tok) (es : List T) (i : Nat) : (cnCs p i es).length = es.length := by rw [cnCs_eq]; simp
theorem cnEs_get (p : Tok) (es : List (List T)) (i : Nat) (hi : i < (cnEs p 0 es).length) : (cnEs p 0 es)[i] = cnCs (p ++ [i]) 0 (es[i]'(by rwa [cnEs_len] at hi)) := by
  simp only [cnEs_eq, List.getElem_mapIdx, Nat.zero_add]
theorem cnCs_get (p : Tok) (es : List T) (i : Nat) (hi : i < (cnCs p 0 es).length) : (cnCs p 0 es)[i] = T.cn (p ++ [i]) (es[i]'(by rwa [cnCs_len] at hi)) := by
  simp only [cnCs_eq, List.getElem_mapIdx, Nat.zero_add]
theorem annTok_some {A : Ann} {es : List (List T)} (h0 : es ≠ []) (h : none ∉ annTok A es) : ∃ q, A = .tok q := by
  cases A <;> first | exact ⟨_, rfl⟩ | (exfalso; apply h; cases es <;> first | exact absurd rfl h0 | simp [annTok]) | (exfalso; apply h; simp [annTok])
section
variable [Known] {P : Program} {w w' : World} {S S' : Stable} {β β' : Places}
theorem mem_prO {x : Tok × Option Tok} {k m : Nat} {A : Ann} {es : List (List T)} : ∀ {o : Objs}, lk k o = some (.arr A m es) → x ∈ prEs [1, k] 0 es → x ∈ prO o
  | [], h, _ => by cases h
  | (j, y) :: o, h, hx => by
    by_cases hk : k = j
    · subst hk; rw [lk_cons_eq] at h; cases h; exact List.mem_append_left _ hx
    · rw [lk_cons_ne _ _ hk] at h
      have := mem_prO h hx
      cases y with
      | arr => exact List.mem_append_right _ this
      | _ => exact this
theorem Rep.cn {L : List (Tok × Option Tok)} {t : T} {v : Value} (hno : ∀ b, ¬ S.t [] b) (h : Rep w S t v) : ∀ (p : Tok), (∀ x ∈ prT p t, x ∈ L ∧ x.2 ≠ none) → Rep w (reS S L) (t.cn p) v := by
  induction h with
  | b x => exact fun _ _ => .b x
  | i k n => exact fun _ _ => .i k n
  | s x => exact fun _ _ => .s x
  | raw v h => exact fun _ _ => .raw v h
  | nil A a cap => exact fun _ _ => .nil _ a cap
  | sl A es B off m cap vs hb ht h0 hm hcap hs hc hr ih =>
    intro p hp
    by_cases hes : es = []
    · subst hes; exact .nil _ _ _
    obtain ⟨q, rfl⟩ := annTok_some hes (A := A) (fun hn => (hp (p, none) (List.mem_append_left _ (List.mem_map.2 ⟨none, hn, rfl⟩))).2 rfl)
    have e1 : T.cn p (.sl (.tok q) es) = .sl (.tok p) (cnEs p 0 es) := rfl
    rw [e1]
    rw [show es.length = (cnEs p 0 es).length from (cnEs_len _ _ _).symm]
    have hl : ∀ i (hi : i < (cnEs p 0 es).length), (cnEs p 0 es)[i].length = (es[i]'(by rwa [cnEs_len] at hi)).length := fun i hi => by rw [cnEs_get _ _ _ hi, cnCs_len]
    refine .sl _ _ B off m cap vs trivial ?_ h0 ?_ (by rw [cnEs_len]; exact hcap) ?_ ?_ ?_
    · intro q' hq
      cases hq
      exact ⟨⟨q, (hp (p, some q) (List.mem_append_left _ (by simp [annTok]))).1, (ht q rfl).1⟩, fun _ => (ht q rfl).2 (fun e => by subst e; exact hno _ (ht _ rfl).1)⟩
    · intro e he
      obtain ⟨i, hi, rfl⟩ := List.mem_iff_getElem.1 he
      rw [hl i hi]
      exact hm _ (List.getElem_mem _)
    · intro i j hi hj
      rw [hl i hi] at hj
      exact hs i j (by rwa [cnEs_len] at hi) hj
    · intro i j hi hj
      rw [hl i hi] at hj
      exact hc i j (by rwa [cnEs_len] at hi) hj
    · intro i j hi hj
      have hi' : i < es.length := by rwa [cnEs_len] at hi
      have hj' : j < es[i].length := by rwa [hl i hi] at hj
      have := ih i j hi' hj' (p ++ [i] ++ [j]) (fun x hx => hp x (List.mem_append_right _ (mem_prEs hi' hj' (by rw [Nat.zero_add]; exact hx))))
      have e2 : (cnEs p 0 es)[i][j] = T.cn (p ++ [i] ++ [j]) es[i][j] := by
        simp only [cnEs_get, cnCs_get]
      rw [e2]
      exact this
theorem RV.cn {L : List (Tok × Option Tok)} {tv : TV} {v : Value} (hno : ∀ b, ¬ S.t [] b) (h : RV P w S β tv v) : ∀ (p : Tok), flatTV tv = true → (∀ x ∈ prTV p tv, x ∈ L ∧ x.2 ≠ none) → RV P w (reS S L) β (tv.cn p) v := by
  have hflat : ∀ {cs : List TV}, flatL cs = true → ∀ x ∈ cs, flatTV x = true := by
    intro cs
    induction cs with
    | nil => simp
    | cons a l ih => intro this; simp only [flatL, Bool.and_eq_true] at this; intro x hx; rcases List.mem_cons.1 hx with rfl | hx; exact this.1; exact ih this.2 x hx
  induction h with
  | unk v => exact fun _ _ _ => .unk v
  | d h => exact fun p _ hp => .d (h.cn hno p hp)
  | nl a => exact fun _ _ _ => .nl a
  | @agg cs vs hl h ih =>
    intro p hf hp
    have hf : ∀ x ∈ cs, flatTV x = true := hflat hf
    rw [TV.cn, cnL_eq]
    refine .agg (by simpa using hl) fun i hi hj => ?_
    have hi' : i < cs.length := by simpa using hi
    rw [List.getElem_mapIdx, Nat.zero_add]
    exact ih i hi' hj (p ++ [i]) (hf _ (List.getElem_mem _)) (fun x hx => hp x (mem_prL hi' (by rw [Nat.zero_add]; exact hx)))
  | @tup cs vs hl h ih =>
    intro p hf hp
    have hf : ∀ x ∈ cs, flatTV x = true := hflat hf
    rw [TV.cn, cnL_eq]
    refine .tup (by simpa using hl) fun i hi hj => ?_
    have hi' : i < cs.length := by simpa using hi
    rw [List.getElem_mapIdx, Nat.zero_add]
    exact ih i hi' hj (p ++ [i]) (hf _ (List.getElem_mem _)) (fun x hx => hp x (mem_prL hi' (by rw [Nat.zero_add]; exact hx)))
  | own k ad had => exact fun _ _ _ => .own k ad had
  | ptr k off => intro _ hf; cases hf
  | ap k i g => intro _ hf; cases hf
  | rp hs hc hr => intro _ hf; cases hf
  | clo hl h ih => intro _ hf; cases hf
  | fn h => intro _ hf; cases hf
theorem cn_ok {p : Nat → Prop} : ∀ (n : Nat) (tv : TV) (q : Tok), SizeOf.sizeOf tv < n → tv.ok p → (tv.cn q).ok p := by
  intro n
  induction n with
  | zero => exact fun t _ h => absurd h (Nat.not_lt_zero _)
  | succ n ih =>
    intro tv q h ho
    cases tv with
    | agg cs =>
      simp only [TV.cn, cnL_eq, TV.ok, okL_iff] at ho ⊢
      intro x hx
      obtain ⟨i, hi, rfl⟩ := List.mem_mapIdx.1 hx
      have := List.sizeOf_lt_of_mem (List.getElem_mem hi)
      simp at h
      exact ih _ _ (by omega) (ho _ (List.getElem_mem hi))
    | tup cs =>
      simp only [TV.cn, cnL_eq, TV.ok, okL_iff] at ho ⊢
      intro x hx
      obtain ⟨i, hi, rfl⟩ := List.mem_mapIdx.1 hx
      have := List.sizeOf_lt_of_mem (List.getElem_mem hi)
      simp at h
      exact ih _ _ (by omega) (ho _ (List.getElem_mem hi))
    | _ => exact ho
theorem keysOf_cnO (o : Objs) : keysOf (cnO o) = keysOf o := by
  induction o with
  | nil => rfl
  | cons p o ih => obtain ⟨k, x⟩ := p; cases x <;> simp only [cnO, keysOf, List.map_cons] at * <;> rw [ih]
theorem lk_cnO {k : Nat} {x : Obj} : ∀ {o : Objs}, arrO o = true → lk k (cnO o) = some x → ∃ A m es, lk k o = some (.arr A m es) ∧ x = .arr A m (cnEs [1, k] 0 es)
  | [], _, h => by cases h
  | (j, y) :: o, ha, h => by
    cases y <;> simp only [arrO] at ha <;> try (cases ha; done)
    simp only [cnO] at h
    by_cases hk : k = j
    · subst hk; rw [lk_cons_eq] at h; cases h; exact ⟨_, _, _, lk_cons_eq _ _ _, rfl⟩
    · rw [lk_cons_ne _ _ hk] at h ⊢; exact lk_cnO ha h
theorem ACz.canon {f : FuncId} {args : List TV} {r0 : TV} {o0 : Objs} (h : ACz true P f [] args (fun _ _ r o => r = r0 ∧ o = o0)) (hc : canOk r0 o0) : ACz true P f [] args (fun _ _ r o => r = r0.cn [0] ∧ o = cnO o0) := by
  intro w S β vs hzt hbnd hkn hl hr ho hth
  refine (h w S β vs hzt hbnd hkn hl hr ho hth).mono ?_
  rintro e w' ⟨r, v, S', β', outs, rfl, ⟨rfl, rfl⟩, hr, hok, hth', hfix, hown, hin, hx⟩
  obtain ⟨⟨hc1, hc2⟩, hfl, har, hkn'⟩ := hc
  have hno : ∀ b, ¬ S'.t [] b := fun b hb => (TNew.new (show TNew w.heap.size (fun q => q ≠ []) w' S' from hx.tk) _ _ hb).1 rfl
  let L := prTV [0] r ++ prO outs
  have hL2 : L.map (·.2) = tkTV r ++ tkO outs := by
    show (prTV [0] r ++ prO outs).map (·.2) = _
    rw [List.map_append, (prTV_tk (SizeOf.sizeOf r + 1)).1 r [0] (by omega), prO_tk]
  have hL1 : (L.map (·.1)).Nodup := by
    show ((prTV [0] r ++ prO outs).map (·.1)).Nodup
    obtain ⟨a1, a2⟩ := (prTV_at (SizeOf.sizeOf r + 1)).1 r [0] (by omega)
    obtain ⟨b1, b2⟩ := prO_at hkn'
    rw [List.map_append, List.nodup_append]
    refine ⟨a2, b2, fun a ha b hb e => ?_⟩
    obtain ⟨x, hx, rfl⟩ := List.mem_map.1 ha
    obtain ⟨y, hy, rfl⟩ := List.mem_map.1 hb
    obtain ⟨k, _, g⟩ := b1 y hy
    have g0 := a1 x hx
    rw [e] at g0
    obtain ⟨u, hu⟩ := g0
    obtain ⟨u', hu'⟩ := g
    rw [← hu'] at hu
    cases hu
  have hLn : ∀ x ∈ L, x.2 ≠ none := fun x hx e => hc1 (by rw [← hL2]; exact List.mem_map.2 ⟨x, hx, e⟩)
  have inj1 : ∀ p x y, (p, x) ∈ L → (p, y) ∈ L → x = y := fun p x y h1 h2 => by
    have := nodup_inj hL1 h1 h2 rfl
    exact (Prod.mk.inj this).2
  have inj2 : ∀ p p' x, (p, x) ∈ L → (p', x) ∈ L → p = p' := fun p p' x h1 h2 => by
    have := nodup_inj (hL2.symm ▸ (hc2 : (tkTV r ++ tkO outs).Nodup) : (L.map (·.2)).Nodup) h1 h2 rfl
    exact (Prod.mk.inj this).1
  refine ⟨_, v, reS S' L, β', cnO outs, rfl, ⟨rfl, rfl⟩, RV.cn hno hr [0] hfl (fun x hx => ⟨List.mem_append_left _ hx, hLn x (List.mem_append_left _ hx)⟩), ?_, ?_, hfix, ?_, ?_, ⟨⟨hx.sub, hx.new, hx.bnd, hx.below⟩, ?_⟩⟩
  · rw [keysOf_cnO]; exact cn_ok _ _ _ (Nat.lt_succ_self _) hok
  · refine ⟨fun k ob hk => ?_, fun k k' ob ob' hk hk' hne => ?_, fun k ob hk hw => ?_⟩
    · obtain ⟨A, m, es, h1, rfl⟩ := lk_cnO har hk
      refine ⟨?_, trivial⟩
      have hov := (hth'.objs k _ h1).1
      have hmem : ∀ x ∈ prEs [1, k] 0 es, x ∈ L ∧ x.2 ≠ none := fun x hx => ⟨List.mem_append_right _ (mem_prO h1 hx), hLn x (List.mem_append_right _ (mem_prO h1 hx))⟩
      cases hov with
      | arr hv hb hA hm h0 hlen hcap hmax hsz h ht =>
        refine .arr hv hb hA hm h0 (by rw [cnEs_len]; exact hlen) (by rw [cnEs_len]; exact hcap) hmax hsz ⟨?_, ?_⟩ ht
        · intro e he
          obtain ⟨i, hi, rfl⟩ := List.mem_iff_getElem.1 he
          rw [cnEs_get _ _ _ hi, cnCs_len]
          exact h.hm _ (List.getElem_mem _)
        · intro i j hi hj
          have hi' : i < es.length := by rwa [cnEs_len] at hi
          have hj' : j < es[i].length := by rwa [cnEs_get _ _ _ hi, cnCs_len] at hj
          obtain ⟨v, hv, hr⟩ := h.cell i j hi' hj'
          refine ⟨v, hv, ?_⟩
          have e2 : (cnEs [1, k] 0 es)[i][j] = T.cn ([1, k] ++ [i] ++ [j]) es[i][j] := by simp only [cnEs_get, cnCs_get]
          rw [e2]
          exact Rep.cn hno hr _ fun x hx => hmem x (mem_prEs hi' hj' (by rw [Nat.zero_add]; exact hx))
      | arrN hv hm h0 hlen hcap => exact .arrN hv hm h0 hlen hcap
    · obtain ⟨A, m, es, h1, rfl⟩ := lk_cnO har hk
      obtain ⟨A', m', es', h2, rfl⟩ := lk_cnO har hk'
      exact hth'.inj k k' _ _ h1 h2 hne
    · obtain ⟨A, m, es, h1, rfl⟩ := lk_cnO har hk
      exact hth'.sep k _ h1 hw
  · intro k ob hk x hxf
    obtain ⟨A, m, es, h1, rfl⟩ := lk_cnO har hk
    exact hown k _ h1 x hxf
  · intro k ob hk
    obtain ⟨A, m, es, h1, rfl⟩ := lk_cnO har hk
    exact hin k _ h1
  · have htk : TNew w.heap.size (fun q => q ≠ []) w' S' := hx.tk
    show TNew w.heap.size (fun q => q ≠ []) w' (reS S' L)
    have hL0 : ∀ x, ([], x) ∈ L → False := by
      intro x hx
      obtain ⟨a1, a2⟩ := (prTV_at (SizeOf.sizeOf r + 1)).1 r [0] (by omega)
      obtain ⟨b1, b2⟩ := prO_at hkn'
      rcases List.mem_append.1 hx with h | h
      · obtain ⟨u, hu⟩ := a1 _ h
        cases hu
      · obtain ⟨k, _, u, hu⟩ := b1 _ h
        cases hu
    refine ⟨?_, ?_, ?_⟩
    · rintro p b ⟨q, hL, hq⟩
      exact ⟨fun e => hL0 _ (e ▸ hL), (htk.new q b hq).2⟩
    · rintro p b b' ⟨q, h1, hq⟩ ⟨q', h2, hq'⟩
      cases inj1 _ _ _ h1 h2
      exact htk.i1 q b b' hq hq'
    · rintro p p' b ⟨q, h1, hq⟩ ⟨q', h2, hq'⟩
      obtain rfl := htk.i2 q q' b hq hq'
      exact inj2 _ _ _ h1 h2
end
end Go.Av
end
section
namespace Go.Av
structure LHint where
  head : List Nat
  out : List Nat
  ret : List Nat
  nls : List (Nat × Nat × Nat)
inductive DT where
  | done
  | alt (a : Nat) (re pu : List Nat) (next other : DT)
structure Plan where
  anc : List (List Nat)
  p0 : List Nat
  ss : DT
structure Cfg where
  P : Program
  O : FuncId → Option (Objs → List TV → Option (TV × Objs))
  E : FuncId → Option (List TV → Option TV)
  H : FuncId → Nat → LHint
  D : FuncId → Nat → Plan
  X : FuncId → Bool
  Y : FuncId → Bool
  U : FuncId → Bool := fun _ => false
  Z : FuncId → Bool := fun _ => false
mutual
def keysTV : TV → List Nat
  | .unk => []
  | .d _ => []
  | .nl => []
  | .agg cs => keysL cs
  | .tup cs => keysL cs
  | .ptr k _ => [k]
  | .own k => [k]
  | .ap k _ _ => [k]
  | .rp _ => []
  | .clo _ cap => keysL cap
  | .fn _ => []
def keysL : List TV → List Nat
  | [] => []
  | x :: xs => keysTV x ++ keysL xs
end
def keysO : Option Obj → List Nat
  | some (.box cs _) => keysL cs
  | some (.arr _ _ _) => []
  | some (.fz _ _ _) => []
  | none => []
def reach (o : Objs) : Nat → List Nat → List Nat → List Nat
  | 0, acc, _ => acc
  | _ + 1, acc, [] => acc
  | n + 1, acc, k :: l => match hasKey k acc with
    | true => reach o n acc l
    | false => reach o n (acc ++ [k]) (l ++ keysO (lk k o))
mutual
def TV.okB (l : List Nat) : TV → Bool
  | .unk => true
  | .d _ => true
  | .nl => true
  | .agg cs => okBL l cs
  | .tup cs => okBL l cs
  | .ptr k _ => hasKey k l
  | .own k => hasKey k l
  | .ap k _ _ => hasKey k l
  | .rp _ => true
  | .clo _ cap => okBL l cap
  | .fn _ => true
def okBL (l : List Nat) : List TV → Bool
  | [] => true
  | x :: xs => x.okB l && okBL l xs
end
def Obj.okOB (l : List Nat) : Obj → Bool
  | .box cs _ => okBL l cs
  | .arr _ _ _ => true
  | .fz _ _ _ => true
def nodupB : List Nat → Bool
  | [] => true
  | k :: l => !hasKey k l && nodupB l
def idx (k : Nat) : Nat → List Nat → Nat
  | i, [] => i
  | i, j :: l => bif k == j then i else idx k (i + 1) l
def nth : List Nat → Nat → Nat
  | [], _ => 0
  | k :: _, 0 => k
  | _ :: l, i + 1 => nth l i
def pick (o : Objs) (f : Nat → Nat) : List Nat → Option Objs
  | [] => some []
  | k :: l => ob (lk k o) fun x => ob (pick o f l) fun r => some ((f k, x.ren f) :: r)
def allOk (l : List Nat) : Objs → Bool
  | [] => true
  | (_, x) :: r => x.okOB l && allOk l r
def pickI (o : Objs) : List Nat → Option Objs
  | [] => some []
  | k :: l => ob (lk k o) fun x => ob (pickI o l) fun r => some ((k, x) :: r)
mutual
def lowTV (o : Objs) : TV → TV
  | .own k => match lk k o with
    | some (.arr _ _ es) => .d (.sl .any es)
    | some (.fz _ _ es) => .d (.sl .any es)
    | some (.box _ _) => .own k
    | none => .own k
  | .agg cs => .agg (lowL o cs)
  | .nl => .d (.sl .any [])
  | .unk => .unk
  | .d t => .d t
  | .tup cs => .tup cs
  | .ptr k i => .ptr k i
  | .ap k i f => .ap k i f
  | .rp cs => .rp cs
  | .clo f cap => .clo f cap
  | .fn g => .fn g
def lowL (o : Objs) : List TV → List TV
  | [] => []
  | x :: xs => lowTV o x :: lowL o xs
end
def erz : Option (Nat × Bool) → Bool → List TV → List TV
  | none, false, l => l
  | none, true, l => eraseL l
  | some _, _, l => eraseL l
mutual
def plainTV : TV → Bool
  | .d _ => true
  | .agg cs => plainL cs
  | .unk => true
  | .nl => true
  | .tup _ => false
  | .ptr _ _ => false
  | .own _ => false
  | .ap _ _ _ => false
  | .rp _ => false
  | .clo _ _ => false
  | .fn _ => false
def plainL : List TV → Bool
  | [] => true
  | x :: xs => plainTV x && plainL xs
end
def noK : List Nat → Bool
  | [] => true
  | _ :: _ => false
def zOk (κ : List Nat) (args : List TV) : Bool → Bool
  | false => true
  | true => noK κ && plainL args
structure Prep where
  g : FuncId
  z : Bool
  fk : List Nat
  κ : List Nat
  ins : Objs
  args : List TV
def prep1 (st : St) (g : FuncId) (z : Bool) (fk : List Nat) (args : List TV) : Option Prep :=
  ob (some (reach st.o 60 [] (keysL args))) fun κ =>
  ob (pick st.o (fun k => idx k 0 κ) κ) fun ins => ob (pickI st.o κ) fun ins0 =>
  ob (chk (okBL κ args && (allOk κ ins0 && (nodupB κ && (decide (κ.length ≤ 40) && zOk κ args z))))) fun _ =>
  some { g := g, z := z, fk := fk, κ := κ, ins := ins, args := renL (fun k => idx k 0 κ) args }
def prep2 (st : St) (g : FuncId) (x z : Bool) (args : List TV) : Option Prep := match x with
  | true => prep1 st g z [] (erz st.g z args)
  | false => prep1 (frz st (ownKeysL args)) g z (ownKeysL args) (erz st.g z (lowL st.o args))
def prep (C : Cfg) (st : St) (f : TV) (args : List TV) : Option Prep := match f with
  | .clo g cap => prep2 st g (C.Y g) (C.Z g) (args ++ cap)
  | .unk => none
  | .d _ => none
  | .nl => none
  | .agg _ => none
  | .tup _ => none
  | .ptr _ _ => none
  | .own _ => none
  | .ap _ _ _ => none
  | .rp _ => none
  | .fn _ => none
def postZ (st : St) (dst : Option Nat) (p : Prep) (r : TV × Objs) : Bool → Option St
  | false => put (merge (frz st p.fk) p.ins (nth p.κ) dst r.2 0) (r.1.ren (rk (nth p.κ) dst)) dst
  | true => ob (chk (flatTV r.1 && arrO r.2)) fun _ =>
    put (merge (bumpZ true (frz st p.fk)) p.ins (nth p.κ) dst (mapO (tkF true (frz st p.fk).g) r.2) 0) ((r.1.mapT (tkF true (frz st p.fk).g)).ren (rk (nth p.κ) dst)) dst
def post (st : St) (dst : Option Nat) (p : Prep) (r : TV × Objs) : Option St :=
  ob (chk (noneIn st.ks (newKs (nth p.κ) dst r.2) && (r.1.okB (keysOf r.2)))) fun _ => postZ st dst p r p.z
def canon (κ : List Nat) (k : Nat) : Nat := bif decide (k < 40) then k else idx k 40 κ
def news : List Nat → List Nat
  | [] => []
  | k :: l => bif decide (k < 40) then news l else k :: news l
def haveK (o : Objs) : List Nat → List Nat
  | [] => []
  | k :: l => match lk k o with
    | some _ => k :: haveK o l
    | none => haveK o l
def efin2 (st : St) (ik : List Nat) (rs : List TV) : Option (TV × Objs) :=
  ob (some (reach st.o 60 [] (haveK st.o ik ++ keysL rs))) fun κ => ob (some (news κ)) fun ν =>
  ob (pick st.o (canon ν) κ) fun outs => ob (pickI st.o κ) fun outs0 =>
  ob (chk (okBL κ rs && (allOk κ outs0 && (nodupB κ && κ.all fun k => decide (40 ≤ k) || hasKey k ik)))) fun _ =>
  some ((afin rs).ren (canon ν), outs)
mutual
def lowZ (o : Objs) : TV → TV
  | .own k => match lk k o with
    | some (.arr _ _ _) => .own k
    | some (.fz A _ es) => .d (.sl A es)
    | some (.box _ _) => .own k
    | none => .own k
  | .agg cs => .agg (lowZL o cs)
  | .nl => .d (.sl .any [])
  | .unk => .unk
  | .d t => .d t
  | .tup cs => .tup cs
  | .ptr k i => .ptr k i
  | .ap k i f => .ap k i f
  | .rp cs => .rp cs
  | .clo f cap => .clo f cap
  | .fn g => .fn g
def lowZL (o : Objs) : List TV → List TV
  | [] => []
  | x :: xs => lowZ o x :: lowZL o xs
end
def lowG (o1 o : Objs) (l : List TV) : Option (Nat × Bool) → List TV
  | none => lowL o l
  | some _ => lowZL o1 l
def efin1 (x : Bool) (st : St) (ik : List Nat) (rs : List TV) : Option (TV × Objs) := match x with
  | true => efin2 st ik rs
  | false => efin2 (frz st (ownKeysL rs)) ik (lowG (frz st (ownKeysL rs)).o st.o rs st.g)
open Classical in
noncomputable def efinZ : Bool → Option (TV × Objs) → Option (TV × Objs)
  | true, some (r, o) => ob (chk (decide (canOk r o))) fun _ => some (r.cn [0], cnO o)
  | true, none => none
  | false, _ => none
noncomputable def efin0 (C : Cfg) (g : FuncId) (x : Option (TV × Objs)) : Option (Nat × Bool) → Option (TV × Objs)
  | none => x
  | some (_, false) => efinZ (C.Z g) x
  | some (_, true) => none
noncomputable def efin (C : Cfg) (g : FuncId) (rv : List ResultVar) (ins : Objs) : Option (Exit × St) → Option (TV × Objs)
  | some (.normal, st) => ob (ares C.P st rv) fun rs => efin0 C g (efin1 (C.X g) st (keysOf ins) rs) st.g
  | some (.ret, st) => ob (ares C.P st rv) fun rs => efin0 C g (efin1 (C.X g) st (keysOf ins) rs) st.g
  | some (.exit _, _) => none
  | some (.goto _, _) => none
  | some (.panic _, _) => none
  | some (.outgrown, _) => none
  | none => none
def keepT (t : List (Nat × TV)) : List Nat → List (Nat × TV)
  | [] => []
  | i :: l => match lk i t with
    | some x => (i, x) :: keepT t l
    | none => keepT t l
def valsT : List (Nat × TV) → List TV
  | [] => []
  | (_, x) :: l => x :: valsT l
def renT (f : Nat → Nat) : List (Nat × TV) → List (Nat × TV)
  | [] => []
  | (i, x) :: l => (i, x.ren f) :: renT f l
def asArr (st : St) (k : Nat) (s off m : Nat) : Option St := match lk s st.t with
  | some .nl => ob (chk (!hasKey k st.ks && (decide (0 < m) && decide (40 ≤ k)))) fun _ => some { t := (s, .own k) :: st.t, o := (k, .arr .any m []) :: st.o, ks := k :: st.ks, n := st.n, sz := st.sz, u := st.u, g := st.g }
  | some (.ptr b p) => match lk b st.o with
    | some (.box cs ty) => match cs[p + off]? with
      | some .nl => ob (chk (!hasKey k st.ks && (decide (0 < m) && decide (40 ≤ k)))) fun _ => some { t := st.t, o := (b, .box (cs.set (p + off) (.own k)) ty) :: (k, .arr .any m []) :: st.o, ks := k :: st.ks, n := st.n, sz := st.sz, u := st.u, g := st.g }
      | _ => some st
    | _ => some st
  | _ => some st
def asArrs (st : St) (k : Nat) : List (Nat × Nat × Nat) → Option St
  | [] => some st
  | (s, off, m) :: l => ob (asArr st k s off m) fun st' => asArrs st' (k + 1) l
def canon2 (ν : List Nat) (k : Nat) : Nat := bif decide (k < 40) then k else idx k 50 ν
def prune2 (st : St) (ik : List Nat) (t : List (Nat × TV)) : Option St :=
  ob (some (reach st.o 60 [] (ik ++ keysL (valsT t)))) fun κ => ob (some (news κ)) fun ν =>
  ob (pick st.o (canon2 ν) κ) fun o => ob (pickI st.o κ) fun o0 =>
  ob (chk (okBL κ (valsT t) && (allOk κ o0 && nodupB κ))) fun _ =>
  some { t := renT (canon2 ν) t, o := o, ks := keysOf o, n := 0, sz := st.sz, u := noU, g := st.g }
def low40 : Objs → List Nat
  | [] => []
  | (k, _) :: l => bif decide (k < 40) then (bif hasKey k (low40 l) then low40 l else k :: low40 l) else low40 l
def prune (st : St) (live : List Nat) : Option St := prune2 st (low40 st.o) (keepT st.t live)
def headSt (h : LHint) (st : St) : Option St := ob (asArrs st 9000000 h.nls) fun s => prune s h.head
def elAnn (P : Program) (el : TypeId) : Ann := if tyInt P el = some .u8 then .u8 el else .any
def apAnn (x : Ann) : Ann → Ann
  | .nilA => x
  | .u8 e => match x with
    | .u8 e' => if e = e' then .u8 e' else .any
    | _ => .any
  | _ => .any
def apSt (st : St) (d k m : Nat) (es : List (List T)) (A : Ann) : Option St :=
  ob (chk (decide (d < st.sz))) fun _ =>
    some { t := (d, .own k) :: scrT k st.t, o := (k, .arr A m es) :: scrO k st.o, ks := k :: st.ks, n := st.n, sz := st.sz, u := st.u, g := st.g }
def eappend (P : Program) (st : St) (dst : Option Nat) (t u : TypeId) (s x : TV) : Option St :=
  ob dst fun d => ob (tyElem P t) fun el => ob (tyZeroT P el) fun z => ob (baseEs st d (tySize P el) s) fun b => ob (readEs st (tySize P el) x) fun new =>
    ob (chk ((z.length == tySize P el && decide (0 < tySize P el)) && ((u == t || (tyStr P u && decide (tyInt P el = some .u8))) && (new.all (fun e => e.length == tySize P el))))) fun _ =>
    ob (chk (decide (b.2.2.length + new.length ≤ maxLen ∧ (b.2.2.length + new.length) * tyBytes P el ≤ 140737488355328))) fun _ =>
    apSt st d b.1 (tySize P el) (b.2.2 ++ new) (apAnn (elAnn P el) b.2.1)
def mkArr (st : St) (d m : Nat) (es : List (List T)) (A : Ann) : Option St :=
  ob (chk (decide (d < st.sz) && !hasKey (kOf d) st.ks)) fun _ =>
    some { t := (d, .own (kOf d)) :: st.t, o := (kOf d, .arr A m es) :: st.o, ks := kOf d :: st.ks, n := st.n, sz := st.sz, u := st.u, g := st.g }
def emake (P : Program) (st : St) (dst : Option Nat) (t : TypeId) (l c : TV) : Option St :=
  ob dst fun d => ob (tyElem P t) fun el => ob (tyZeroT P el) fun z => ob (intOfTV l) fun n => ob (intOfTV c) fun n' =>
    ob (chk (z.length == tySize P el && decide (0 < tySize P el))) fun _ =>
    ob (chk (decide ((n = n' ∧ 0 ≤ n) ∧ (tyBytes P el * n.toNat ≤ 281474976710656 ∧ n.toNat ≤ maxLen)))) fun _ => mkArr st d (tySize P el) (List.replicate n.toNat z) (elAnn P el)
def ebuild (P : Program) (st : St) (dst : Option Nat) (t : TypeId) (len : Nat) (parts : List (Nat × Operand)) : Option St :=
  ob dst fun d => ob (tyElem P t) fun el => ob (tyZeroT P el) fun z =>
    ob (fillEs (frz st (partKeys st parts)) (tySize P el) parts (List.replicate len z)) fun es =>
    ob (chk (z.length == tySize P el && (decide (0 < tySize P el) && decide (len * tySize P el ≤ 16777216)))) fun _ => mkArr (frz st (partKeys st parts)) d (tySize P el) es (elAnn P el)
def wide : Option Nat → Bool
  | some d => decide (100 ≤ d)
  | none => false
def ebytes (P : Program) (st : St) (dst : Option Nat) (src d : TypeId) : TV → Option St
  | .d (.s x) => ob (chk (tyStr P src && decide (((tyElem P d).bind (tyInt P)) = some .u8))) fun _ => bif wide dst then ob dst fun dd => ob (chk (decide (x.size ≤ maxLen))) fun _ => mkArr st dd 1 (bytesT x) .any else put st (.d (.sl .any (bytesT x))) dst
  | _ => none
theorem bytesT_inj {x y : ByteArray} (h : bytesT x = bytesT y) : x = y := by
  unfold bytesT at h
  have h2 := List.map_inj_right (f := fun b : UInt8 => [T.i .u8 b.toNat]) (fun a b e => by
    simp only [List.cons.injEq, T.i.injEq, true_and, and_true] at e
    exact UInt8.toNat.inj (by exact_mod_cast e)) |>.1 h
  exact ByteArray.ext (Array.toList_inj.1 h2)
open Classical in
noncomputable def strOf (es : List (List T)) : Option ByteArray := if h : ∃ x, es = bytesT x then some h.choose else none
theorem strOf_bytesT (x : ByteArray) : strOf (bytesT x) = some x := by
  have h : ∃ y, bytesT x = bytesT y := ⟨x, rfl⟩
  unfold strOf
  rw [dif_pos h]
  exact congrArg some (bytesT_inj h.choose_spec).symm
theorem strOf_some {es : List (List T)} {x : ByteArray} (h : strOf es = some x) : es = bytesT x := by
  unfold strOf at h
  split at h
  · rename_i he
    cases h
    exact he.choose_spec
  · cases h
noncomputable def estr (P : Program) (st : St) (dst : Option Nat) (src d : TypeId) (es : Option (List (List T))) : Option St :=
  ob (chk (tyStr P d && decide (((tyElem P src).bind (tyInt P)) = some .u8))) fun _ => ob es fun es => ob (strOf es) fun x => put st (.d (.s x)) dst
def strEs (st : St) : TV → Option (List (List T))
  | .d (.sl _ es) => some es
  | .nl => some []
  | .own k => ob (lk k st.o) fun o => ob (arrEs o) fun x => some x.2
  | _ => none
def eslice2 (P : Program) (st : St) (o : Oper) (t : TypeId) (lo hi : Option Operand) (k : Nat) : Option St := ob (lk k (frz st [k]).o) fun
    | .fz A _ es => ob (sliceAt P (frz st [k]) t lo hi (.d (.sl A es))) fun x => put (frz st [k]) x o.dst
    | .box _ _ => none
    | .arr _ _ _ => none
def eslice1 (P : Program) (st : St) (o : Oper) (t : TypeId) (y : Operand) (k : Nat) : Obj → Option St
  | .arr A m es => bif decide (40 ≤ k) then ob o.dst fun d => ob (intOfTV (evc st y)) fun h => resl P st d t h k A m es else eslice2 P st o t none (some y) k
  | .fz _ _ _ => eslice2 P st o t none (some y) k
  | .box _ _ => none
def eslice (P : Program) (st : St) (o : Oper) (t : TypeId) (lo hi : Option Operand) : TV → Option St
  | .own k => match lo, hi with
    | none, some y => ob (lk k st.o) (eslice1 P st o t y k)
    | _, _ => eslice2 P st o t lo hi k
  | .unk => none
  | .d _ => lop P st o
  | .nl => none
  | .agg _ => none
  | .tup _ => none
  | .ptr _ _ => none
  | .ap _ _ _ => none
  | .rp _ => none
  | .clo _ _ => none
  | .fn _ => none
noncomputable def eunstr (P : Program) (st : St) (dst : Option Nat) (pt : TypeId) (p n : TV) : Option St := ob (chk (noG st.g)) fun _ =>
  ob (unstrK P st pt p n) fun q => ob (strOf q.2) fun x => put (frz st [q.1]) (.d (.s x)) dst
def isSl : TV → Bool
  | .d (.sl _ _) => true
  | .nl => true
  | .own _ => true
  | _ => false
def ezero (P : Program) (st : St) (dst : Option Nat) (t : TypeId) (lo hi mx : Option Operand) (x : TV) : Option St :=
  ob (tyElem P t) fun el => ob (hi.bind fun h => intOfTV (evc st h)) fun h => ob (mx.bind fun h => intOfTV (evc st h)) fun m =>
    ob (chk (decide (0 < tySize P el) && (lo.isNone && (isSl x && decide (h = 0 ∧ m = 0))))) fun _ => put st .nl dst
noncomputable def eop (P : Program) (st : St) (o : Oper) : Op → Option St
  | .store t x v => ob (astore P st t x v) fun st' => put st' .unk o.dst
  | .call c => match c.callee with
    | .value _ => none
    | .builtin .append => match c.argTypes.toList, c.args.toList with
      | [t, u], [s, x] => eappend P st o.dst t u (evc st s) (evc st x)
      | _, _ => none
    | .builtin .unsafeString => match c.argTypes.toList, c.args.toList with
      | [pt, _], [p, n] => eunstr P st o.dst pt (evc st p) (evc st n)
      | _, _ => none
    | _ => lop P st o
  | .convert src d x => match tyInt P d with
    | some _ => lop P st o
    | none => match tyStr P d with
      | true => estr P st o.dst src d (strEs st (evc st x))
      | false => match isPtr (evc st x) with
        | true => lop P st o
        | false => ebytes P st o.dst src d (evc st x)
  | .makeSlice t l c => emake P st o.dst t (evc st l) (evc st c)
  | .buildSlice t len parts => ebuild P st o.dst t len parts.toList
  | .slice t x lo hi none => eslice P st o t lo hi (evc st x)
  | .slice t x lo hi (some m) => ezero P st o.dst t lo hi (some m) (evc st x)
  | _ => lop P st o
def extOf (C : Cfg) : TV → Option (List TV → Option TV)
  | .clo g [] => C.E g
  | .clo _ (_ :: _) => none
  | .unk => none
  | .d _ => none
  | .nl => none
  | .agg _ => none
  | .tup _ => none
  | .ptr _ _ => none
  | .own _ => none
  | .ap _ _ _ => none
  | .rp _ => none
  | .fn _ => none
def callOf : Op → Option (Operand × List Operand)
  | .call c => match c.callee with
    | .value f => some (f, c.args.toList)
    | _ => none
  | _ => none
def pv1 (P : Program) (st : St) (op : Op) : Option Bool → Option TV
  | none => none
  | some false => some (.tup [])
  | some true => match leff P st op with
    | some (.val x) => some x
    | some (.box _ _) => none
    | none => none
def pv (P : Program) (ops : Array Oper) (st : St) (o : Oper) : Option TV := pv1 P st o.op (gval ops st o)
def evPu (P : Program) (ops : Array Oper) : List Nat → St → Option St
  | [], st => some st
  | i :: l, st => ob (ops[i]?) fun o => ob (pv P ops st o) fun x => ob (put st x o.dst) fun s => evPu P ops l s
open Classical in
noncomputable def reB (P : Program) (ops : Array Oper) (st : St) : List Nat → Bool
  | [] => true
  | i :: l => (match ops[i]? with
    | none => false
    | some o => match pv P ops st o with
      | none => false
      | some x => match o.dst with
        | none => true
        | some d => decide (lk d st.t = some x) && decide (d < st.sz)) && reB P ops st l
def ancOf (pl : Plan) (i : Nat) : List Nat := (pl.anc[i]?).getD []
def part : DT → List Nat
  | .done => []
  | .alt a _ pu next _ => a :: (pu ++ part next)
def effs : DT → List Nat
  | .done => []
  | .alt a _ _ next _ => a :: effs next
def pus : DT → List Nat
  | .done => []
  | .alt _ _ pu next other => pu ++ (pus next ++ pus other)
def heads : DT → List Nat
  | .done => []
  | .alt a _ _ _ other => a :: heads other
def bindsA (e : Edge) : Bool := Region.binds .any e
def puOk (pl : Plan) : List Nat → Bool
  | [] => true
  | i :: l => (l.all fun j => i != j && !hasKey j (ancOf pl i)) && !hasKey i (ancOf pl i) && puOk pl l
def nodeOk (pl : Plan) (p h : List Nat) : Option (List Nat) → Bool
  | none => p.all fun i => hasKey i h || p.any fun k => hasKey k (ancOf pl i)
  | some U => (U.all fun i => hasKey i p) && p.all fun i => hasKey i U
def ssOk (pl : Plan) : Option (List Nat) → List Nat → DT → Bool
  | _, _, .done => true
  | U, done, .alt a re pu next other => (done.all fun i => hasKey i (ancOf pl a) || hasKey i re) && (nodeOk pl (a :: (pu ++ part next)) (a :: heads other) U && (puOk pl pu && ((!hasKey a (pu ++ part next) && !hasKey a done) && (ssOk pl none (done ++ pu) next && ssOk pl (some (U.getD (a :: (pu ++ part next)))) done other))))
def ahead (ops : Array Oper) : List Nat → List Nat → Bool
  | _, [] => true
  | b, i :: l => (match ops[i]? with
    | none => false
    | some o => o.after.toList.all fun e => !bindsA e || hasKey e.on b) && ahead ops (i :: b) l
def ancOk (ops : Array Oper) (pl : Plan) (i : Nat) : Bool := match ops[i]? with
  | none => false
  | some o => (o.after.toList.all fun e => !bindsA e || hasKey e.on (ancOf pl i)) && ((ancOf pl i).all fun k => o.after.toList.any fun e => bindsA e && (k == e.on || hasKey k (ancOf pl e.on))) &&
      ((List.range ops.size).all fun k => match (ops[k]?).bind (·.dst) with
        | none => true
        | some d => !hasKey d (o.looksAt ops) || (hasKey k (ancOf pl i) || (hasKey k (effs pl.ss) && hasKey i (ancOf pl k)))) &&
      ((List.range ops.size).all fun k => match (ops[k]?).bind (·.dst) with
        | none => true
        | some d => k == i || o.dst != some d)
def planOk (ops : Array Oper) (pl : Plan) : Bool :=
  ((List.range ops.size).all fun i => hasKey i (pl.p0 ++ part pl.ss)) && ahead ops [] (pl.p0 ++ part pl.ss) && ((List.range ops.size).all fun i => ancOk ops pl i) && puOk pl pl.p0 && ssOk pl none pl.p0 pl.ss && ((effs pl.ss).all fun k => !hasKey k (pl.p0 ++ pus pl.ss))
def upK (o : Objs) (k : Nat) : Nat := bif decide (k < 40) then (match lk k o with
  | some (.arr _ _ _) => k + 50
  | some (.box _ _) => k
  | some (.fz _ _ _) => k
  | none => k) else k
def initU : Bool → St → St
  | false, st => st
  | true, st => { t := renT (upK st.o) st.t, o := renO (upK st.o) st.o, ks := st.ks.map (upK st.o), n := st.n, sz := st.sz, u := noU, g := st.g }
def firstRegion : Code → Nat
  | .region id _ _ => id
  | .seq a _ => firstRegion a
  | .block _ c => firstRegion c
  | .loop c => firstRegion c
  | _ => 1000000
def inBE (id : Nat) : Option (Exit × St) → Option (Exit × St)
  | some (.exit j, s) => if j = id then some (.normal, s) else some (.exit j, s)
  | r => r
def leave (h : LHint) : Exit → St → Option (Exit × St)
  | .exit id, s => ob (prune s h.out) fun s' => some (.exit id, s')
  | .ret, s => ob (prune s h.ret) fun s' => some (.ret, s')
  | _, _ => none
def eqAt {α : Type} (a b : List (Nat × α)) : List Nat → Prop
  | [] => True
  | i :: l => lk i a = lk i b ∧ eqAt a b l
def keysA {α : Type} : List (Nat × α) → List Nat
  | [] => []
  | (i, _) :: l => i :: keysA l
def allIn (l : List Nat) : List Nat → Bool
  | [] => true
  | i :: r => hasKey i l && allIn l r
def sameP (s t : St) : Prop := (eqAt s.t t.t (keysA s.t) ∧ eqAt s.o t.o (keysA s.o)) ∧ (eqAt s.o t.o (keysA t.o) ∧ (allIn t.ks s.ks = true ∧ (allIn s.ks t.ks = true ∧ (s.n = t.n ∧ (s.sz = t.sz ∧ (s.u = t.u ∧ s.g = t.g))))))
open Classical in
noncomputable def sameO (s t : St) : Option St := if sameP s t then some s else none
noncomputable def stF (C : Cfg) (evC : FuncId → Code → St → Option (Exit × St)) (g : FuncId) (ins : Objs) (args : List TV) : Option (TV × Objs) :=
  match C.O g with
  | some h => h ins args
  | none => match C.P.funcs[g]? with
    | some fn => match fn.body with
      | some c => if args.length ≤ fn.ntmps ∧ (fn.name == "runtime.NumGoroutine") = false ∧ (keysOf ins).all (fun k => decide (k < 40)) = true ∧ (C.Z g = true → ins = []) then
          (evC g c (gZ (C.Z g) (initU (C.U g) (init ins args fn.ntmps 0)))) >>= fun r => efin C g fn.results.toList ins (some r) else none
      | none => none
    | none => none
noncomputable def stC (C : Cfg) (evC : FuncId → Code → St → Option (Exit × St)) (evL : FuncId → LHint → Code → St → Option (Exit × St)) (evDr : Array Oper → DT → St → Option St) (evOps : Array Oper → List Nat → St → Option St) (g : FuncId) (c : Code) (st : St) : Option (Exit × St) :=
  match c with
  | .skip => some (.normal, st)
  | .region id ops draw => match draw with
    | false => (evOps ops (List.range ops.size) st) >>= fun s => some (.normal, s)
    | true => if planOk ops (C.D g id) = true ∧ C.P.follows .mixedOrders = true then
        match evPu C.P ops (C.D g id).p0 st with
        | none => none
        | some s0 => (evDr ops (C.D g id).ss s0) >>= fun s => some (.normal, s)
      else none
  | .seq a b => (evC g a st) >>= fun r => match r.1 with
    | .normal => evC g b r.2
    | e => some (e, r.2)
  | .cond x a b => match boolOfTV (evc st x) with
    | some true => evC g a st
    | some false => evC g b st
    | none => none
  | .block id c => (evC g c st) >>= fun r => inBE id (some r)
  | .loop c => match headSt (C.H g (firstRegion c)) st with
    | some s => evL g (C.H g (firstRegion c)) c s
    | none => none
  | .exit id => some (.exit id, st)
  | .ret => some (.ret, st)
  | _ => none
noncomputable def stL (C : Cfg) (evC : FuncId → Code → St → Option (Exit × St)) (evL : FuncId → LHint → Code → St → Option (Exit × St)) (g : FuncId) (h : LHint) (c : Code) (st : St) : Option (Exit × St) :=
  (evC g c st) >>= fun r => match r.1 with
    | .normal => match headSt h r.2 with
      | some s => evL g h c s
      | none => none
    | e => leave h e r.2
noncomputable def stO (C : Cfg) (ev1 : Oper → Option Bool → St → Option St) (evOps : Array Oper → List Nat → St → Option St) (ops : Array Oper) (l : List Nat) (st : St) : Option St :=
  match l with
  | [] => some st
  | i :: l => match ops[i]? with
    | none => none
    | some o => (ev1 o (gval ops st o) st) >>= fun s => evOps ops l s
noncomputable def stD (C : Cfg) (evDr : Array Oper → DT → St → Option St) (ev1 : Oper → Option Bool → St → Option St) (ops : Array Oper) (l : DT) (st : St) : Option St :=
  match l with
  | .done => some st
  | .alt a re pu next other => match ops[a]? with
    | none => none
    | some o => (ev1 o (gval ops st o) st) >>= fun s1 => match evPu C.P ops pu s1 with
      | none => none
      | some s2 => if reB C.P ops s2 re = true then (evDr ops next s2) >>= fun s => match other with
          | .done => some s
          | .alt a' re' pu' next' other' => (evDr ops (.alt a' re' pu' next' other') st) >>= fun s' => sameO s s'
        else none
noncomputable def stE (C : Cfg) (evF : FuncId → Objs → List TV → Option (TV × Objs)) (o : Oper) (b : Option Bool) (st : St) : Option St :=
  match b with
  | none => none
  | some false => put st (.tup []) o.dst
  | some true => match callOf o.op with
    | none => eop C.P st o o.op
    | some (f, args) => match extOf C (evc st f) with
      | some h => match h (args.map (evc st)) with
        | some x => put st x o.dst
        | none => none
      | none => match prep C st (evc st f) (args.map (evc st)) with
        | none => none
        | some p => (evF p.g p.ins p.args) >>= fun r => post st o.dst p r
structure Evs where
  F : FuncId → Objs → List TV → Option (TV × Objs)
  C : FuncId → Code → St → Option (Exit × St)
  L : FuncId → LHint → Code → St → Option (Exit × St)
  O : Array Oper → List Nat → St → Option St
  D : Array Oper → DT → St → Option St
  E : Oper → Option Bool → St → Option St
noncomputable def stR (C : Cfg) (s : Evs) : Evs := ⟨stF C s.C, stC C s.C s.L s.D s.O, stL C s.C s.L, stO C s.E s.O, stD C s.D s.E, stE C s.F⟩
noncomputable def itR (C : Cfg) : Nat → Evs
  | 0 => ⟨fun _ _ _ => none, fun _ _ _ => none, fun _ _ _ _ => none, fun _ _ _ => none, fun _ _ _ => none, fun _ _ _ => none⟩
  | n + 1 => stR C (itR C n)
def Cont {α : Type} (x : Option α) (xn : Nat → Option α) : Prop := (∀ r, x = some r → ∃ n, xn n = some r) ∧ (∀ n r, xn n = some r → x = some r) ∧ ∀ n m r, n ≤ m → xn n = some r → xn m = some r
theorem Cont.const {α : Type} (x : Option α) : Cont x fun _ => x := ⟨fun _ h => ⟨0, h⟩, fun _ _ h => h, fun _ _ _ _ h => h⟩
theorem Cont.bind {α β : Type} {x : Option α} {xn : Nat → Option α} {k : α → Option β} {kn : Nat → α → Option β} (h : Cont x xn) (hk : ∀ a, Cont (k a) fun n => kn n a) : Cont (x >>= k) fun n => xn n >>= kn n := by
  refine ⟨fun r e => ?_, fun n r e => ?_, fun n m r hm e => ?_⟩
  · obtain ⟨a, h1, h2⟩ := Option.bind_eq_some_iff.1 e
    obtain ⟨n1, g1⟩ := h.1 a h1
    obtain ⟨n2, g2⟩ := (hk a).1 r h2
    exact ⟨max n1 n2, Option.bind_eq_some_iff.2 ⟨a, h.2.2 _ _ a (Nat.le_max_left ..) g1, (hk a).2.2 _ _ r (Nat.le_max_right ..) g2⟩⟩
  · obtain ⟨a, h1, h2⟩ := Option.bind_eq_some_iff.1 e
    exact Option.bind_eq_some_iff.2 ⟨a, h.2.1 n a h1, (hk a).2.1 n r h2⟩
  · obtain ⟨a, h1, h2⟩ := Option.bind_eq_some_iff.1 e
    exact Option.bind_eq_some_iff.2 ⟨a, h.2.2 n m a hm h1, (hk a).2.2 n m r hm h2⟩
theorem Cont.uniq {α : Type} {x y : Option α} {xn : Nat → Option α} (h : Cont x xn) (h' : Cont y fun n => xn (n + 1)) : x = y := by
  cases hy : y with
  | some r =>
    obtain ⟨n, hn⟩ := h'.1 r hy
    exact h.2.1 _ r hn
  | none =>
    cases hx : x with
    | none => rfl
    | some r =>
      obtain ⟨n, hn⟩ := h.1 r hx
      have := h'.2.1 n r (h.2.2 n (n + 1) r (by omega) hn)
      rw [hy] at this; cases this
structure ContR (l : Evs) (c : Nat → Evs) : Prop where
  F : ∀ g i a, Cont (l.F g i a) fun n => (c n).F g i a
  C : ∀ g i a, Cont (l.C g i a) fun n => (c n).C g i a
  L : ∀ g h i a, Cont (l.L g h i a) fun n => (c n).L g h i a
  O : ∀ g i a, Cont (l.O g i a) fun n => (c n).O g i a
  D : ∀ g i a, Cont (l.D g i a) fun n => (c n).D g i a
  E : ∀ g i a, Cont (l.E g i a) fun n => (c n).E g i a
theorem stR_cont {C : Cfg} {l : Evs} {c : Nat → Evs} (h : ContR l c) : ContR (stR C l) fun n => stR C (c n) := by
  refine ⟨?_, ?_, ?_, ?_, ?_, ?_⟩
  · intro g ins args
    simp only [stR, stF]
    split
    · exact .const _
    · split
      · split
        · split
          · exact .bind (h.C ..) fun _ => .const _
          · exact .const _
        · exact .const _
      · exact .const _
  · intro g c st
    simp only [stR, stC]
    split
    · exact .const _
    · split
      · exact .bind (h.O ..) fun _ => .const _
      · split
        · split
          · exact .const _
          · exact .bind (h.D ..) fun _ => .const _
        · exact .const _
    · refine .bind (h.C ..) fun r => ?_
      split
      · exact h.C ..
      · exact .const _
    · split
      · exact h.C ..
      · exact h.C ..
      · exact .const _
    · exact .bind (h.C ..) fun _ => .const _
    · split
      · exact h.L ..
      · exact .const _
    · exact .const _
    · exact .const _
    · exact .const _
  · intro g hh c st
    simp only [stR, stL]
    refine .bind (h.C ..) fun r => ?_
    split
    · split
      · exact h.L ..
      · exact .const _
    · exact .const _
  · intro ops l st
    simp only [stR, stO]
    split
    · exact .const _
    · split
      · exact .const _
      · exact .bind (h.E ..) fun _ => h.O ..
  · intro ops l st
    simp only [stR, stD]
    split
    · exact .const _
    · split
      · exact .const _
      · refine .bind (h.E ..) fun s1 => ?_
        split
        · exact .const _
        · split
          · refine .bind (h.D ..) fun s => ?_
            split
            · exact .const _
            · exact .bind (h.D ..) fun _ => .const _
          · exact .const _
  · intro o b st
    simp only [stR, stE]
    split
    · exact .const _
    · exact .const _
    · split
      · exact .const _
      · split
        · split
          · exact .const _
          · exact .const _
        · split
          · exact .const _
          · exact .bind (h.F ..) fun _ => .const _
noncomputable def limO {α : Type} (x : Nat → Option α) : Option α := open Classical in if h : ∃ r, ∃ n, x n = some r then some h.choose else none
theorem limO_cont {α : Type} {x : Nat → Option α} (hm : ∀ n r, x n = some r → x (n + 1) = some r) : Cont (limO x) x := by
  have mono : ∀ n m r, n ≤ m → x n = some r → x m = some r := by
    intro n m r h hx
    induction h with
    | refl => exact hx
    | step _ ih => exact hm _ _ ih
  have key : ∀ n r, x n = some r → limO x = some r := by
    intro n r hn
    have h : ∃ r, ∃ n, x n = some r := ⟨r, n, hn⟩
    unfold limO
    rw [dif_pos h]
    obtain ⟨m, hm⟩ := h.choose_spec
    have h1 := mono _ _ _ (Nat.le_max_left n m) hn
    have h2 := mono _ _ _ (Nat.le_max_right n m) hm
    rw [h1] at h2
    exact h2.symm
  refine ⟨fun r e => ?_, key, mono⟩
  unfold limO at e
  split at e
  · rename_i h
    cases e
    exact h.choose_spec
  · cases e
structure LeR (a b : Evs) : Prop where
  F : ∀ g i x r, a.F g i x = some r → b.F g i x = some r
  C : ∀ g i x r, a.C g i x = some r → b.C g i x = some r
  L : ∀ g h i x r, a.L g h i x = some r → b.L g h i x = some r
  O : ∀ g i x r, a.O g i x = some r → b.O g i x = some r
  D : ∀ g i x r, a.D g i x = some r → b.D g i x = some r
  E : ∀ g i x r, a.E g i x = some r → b.E g i x = some r
theorem Cont.two {α : Type} {a b : Evs} (p : Evs → Option α) (h : ∀ r, p a = some r → p b = some r) : Cont (p b) fun n => p (if n = 0 then a else b) := by
  refine ⟨fun r e => ⟨1, e⟩, fun n r e => ?_, fun n m r hm e => ?_⟩
  · by_cases hn : n = 0
    · subst hn; exact h r e
    · have e : p (if n = 0 then a else b) = some r := e
      rw [if_neg hn] at e; exact e
  · show p (if m = 0 then a else b) = some r
    have e : p (if n = 0 then a else b) = some r := e
    by_cases hn : n = 0
    · rw [if_pos hn] at e
      by_cases hm0 : m = 0
      · rw [if_pos hm0]; exact e
      · rw [if_neg hm0]; exact h r e
    · rw [if_neg hn] at e
      rw [if_neg (by omega)]; exact e
theorem stR_mono {C : Cfg} {a b : Evs} (h : LeR a b) : LeR (stR C a) (stR C b) := by
  have hc : ContR b fun n => if n = 0 then a else b := ⟨fun g i x => .two (fun s => s.F g i x) (h.F g i x), fun g i x => .two (fun s => s.C g i x) (h.C g i x), fun g q i x => .two (fun s => s.L g q i x) (h.L g q i x),
    fun g i x => .two (fun s => s.O g i x) (h.O g i x), fun g i x => .two (fun s => s.D g i x) (h.D g i x), fun g i x => .two (fun s => s.E g i x) (h.E g i x)⟩
  have k := stR_cont (C := C) hc
  exact ⟨fun g i x r e => (k.F g i x).2.1 0 r e, fun g i x r e => (k.C g i x).2.1 0 r e, fun g q i x r e => (k.L g q i x).2.1 0 r e, fun g i x r e => (k.O g i x).2.1 0 r e,
    fun g i x r e => (k.D g i x).2.1 0 r e, fun g i x r e => (k.E g i x).2.1 0 r e⟩
theorem itR_mono (C : Cfg) : ∀ n, LeR (itR C n) (itR C (n + 1))
  | 0 => ⟨fun _ _ _ _ e => (by cases e), fun _ _ _ _ e => (by cases e), fun _ _ _ _ _ e => (by cases e), fun _ _ _ _ e => (by cases e), fun _ _ _ _ e => (by cases e), fun _ _ _ _ e => (by cases e)⟩
  | n + 1 => stR_mono (itR_mono C n)
noncomputable def evF (C : Cfg) (g : FuncId) (ins : Objs) (args : List TV) : Option (TV × Objs) := limO fun n => (itR C n).F g ins args
noncomputable def evC (C : Cfg) (g : FuncId) (c : Code) (st : St) : Option (Exit × St) := limO fun n => (itR C n).C g c st
noncomputable def evL (C : Cfg) (g : FuncId) (h : LHint) (c : Code) (st : St) : Option (Exit × St) := limO fun n => (itR C n).L g h c st
noncomputable def evOps (C : Cfg) (ops : Array Oper) (l : List Nat) (st : St) : Option St := limO fun n => (itR C n).O ops l st
noncomputable def evDr (C : Cfg) (ops : Array Oper) (l : DT) (st : St) : Option St := limO fun n => (itR C n).D ops l st
noncomputable def ev1 (C : Cfg) (o : Oper) (b : Option Bool) (st : St) : Option St := limO fun n => (itR C n).E o b st
theorem ev_cont (C : Cfg) : ContR ⟨evF C, evC C, evL C, evOps C, evDr C, ev1 C⟩ (itR C) :=
  ⟨fun _ _ _ => limO_cont fun n r e => (itR_mono C n).F _ _ _ r e, fun _ _ _ => limO_cont fun n r e => (itR_mono C n).C _ _ _ r e, fun _ _ _ _ => limO_cont fun n r e => (itR_mono C n).L _ _ _ _ r e,
    fun _ _ _ => limO_cont fun n r e => (itR_mono C n).O _ _ _ r e, fun _ _ _ => limO_cont fun n r e => (itR_mono C n).D _ _ _ r e, fun _ _ _ => limO_cont fun n r e => (itR_mono C n).E _ _ _ r e⟩
theorem evF_def (C : Cfg) (g : FuncId) (ins : Objs) (args : List TV) : evF C g ins args = stF C (evC C) g ins args := ((ev_cont C).F g ins args).uniq ((stR_cont (ev_cont C)).F g ins args)
theorem evC_def (C : Cfg) (g : FuncId) (c : Code) (st : St) : evC C g c st = stC C (evC C) (evL C) (evDr C) (evOps C) g c st := ((ev_cont C).C g c st).uniq ((stR_cont (ev_cont C)).C g c st)
theorem evL_def (C : Cfg) (g : FuncId) (h : LHint) (c : Code) (st : St) : evL C g h c st = stL C (evC C) (evL C) g h c st := ((ev_cont C).L g h c st).uniq ((stR_cont (ev_cont C)).L g h c st)
theorem evOps_def (C : Cfg) (ops : Array Oper) (l : List Nat) (st : St) : evOps C ops l st = stO C (ev1 C) (evOps C) ops l st := ((ev_cont C).O ops l st).uniq ((stR_cont (ev_cont C)).O ops l st)
theorem evDr_def (C : Cfg) (ops : Array Oper) (l : DT) (st : St) : evDr C ops l st = stD C (evDr C) (ev1 C) ops l st := ((ev_cont C).D ops l st).uniq ((stR_cont (ev_cont C)).D ops l st)
theorem ev1_def (C : Cfg) (o : Oper) (b : Option Bool) (st : St) : ev1 C o b st = stE C (evF C) o b st := ((ev_cont C).E o b st).uniq ((stR_cont (ev_cont C)).E o b st)
theorem ev_ind (C : Cfg) (m1 : FuncId → Objs → List TV → TV × Objs → Prop) (m2 : FuncId → Code → St → Exit × St → Prop) (m3 : FuncId → LHint → Code → St → Exit × St → Prop)
    (m5 : Array Oper → DT → St → St → Prop) (m6 : Oper → Option Bool → St → St → Prop) (m4 : Array Oper → List Nat → St → St → Prop)
    (hF : ∀ evC, (∀ g c st r, evC g c st = some r → m2 g c st r) → ∀ g ins args r, stF C evC g ins args = some r → m1 g ins args r)
    (hC : ∀ evC evL evDr evOps, (∀ g c st r, evC g c st = some r → m2 g c st r) → (∀ g h c st r, evL g h c st = some r → m3 g h c st r) → (∀ ops l st r, evDr ops l st = some r → m5 ops l st r) → (∀ ops l st r, evOps ops l st = some r → m4 ops l st r) →
      ∀ g c st r, stC C evC evL evDr evOps g c st = some r → m2 g c st r)
    (hL : ∀ evC evL, (∀ g c st r, evC g c st = some r → m2 g c st r) → (∀ g h c st r, evL g h c st = some r → m3 g h c st r) → ∀ g h c st r, stL C evC evL g h c st = some r → m3 g h c st r)
    (hD : ∀ evDr ev1, (∀ ops l st r, evDr ops l st = some r → m5 ops l st r) → (∀ o b st r, ev1 o b st = some r → m6 o b st r) → ∀ ops l st r, stD C evDr ev1 ops l st = some r → m5 ops l st r)
    (hE : ∀ evF, (∀ g ins args r, evF g ins args = some r → m1 g ins args r) → ∀ o b st r, stE C evF o b st = some r → m6 o b st r)
    (hO : ∀ ev1 evOps, (∀ o b st r, ev1 o b st = some r → m6 o b st r) → (∀ ops l st r, evOps ops l st = some r → m4 ops l st r) → ∀ ops l st r, stO C ev1 evOps ops l st = some r → m4 ops l st r) :
    (∀ g ins args r, evF C g ins args = some r → m1 g ins args r) ∧ (∀ g c st r, evC C g c st = some r → m2 g c st r) ∧ (∀ g h c st r, evL C g h c st = some r → m3 g h c st r) ∧
      (∀ ops l st r, evDr C ops l st = some r → m5 ops l st r) ∧ (∀ o b st r, ev1 C o b st = some r → m6 o b st r) ∧ (∀ ops l st r, evOps C ops l st = some r → m4 ops l st r) := by
  have all : ∀ n, (∀ g ins args r, (itR C n).F g ins args = some r → m1 g ins args r) ∧ (∀ g c st r, (itR C n).C g c st = some r → m2 g c st r) ∧ (∀ g h c st r, (itR C n).L g h c st = some r → m3 g h c st r) ∧
      (∀ ops l st r, (itR C n).D ops l st = some r → m5 ops l st r) ∧ (∀ o b st r, (itR C n).E o b st = some r → m6 o b st r) ∧ (∀ ops l st r, (itR C n).O ops l st = some r → m4 ops l st r) := by
    intro n
    induction n with
    | zero => exact ⟨fun _ _ _ _ e => (by cases e), fun _ _ _ _ e => (by cases e), fun _ _ _ _ _ e => (by cases e), fun _ _ _ _ e => (by cases e), fun _ _ _ _ e => (by cases e), fun _ _ _ _ e => (by cases e)⟩
    | succ n ih =>
      obtain ⟨a, b, c, d, e, f⟩ := ih
      exact ⟨hF _ b, hC _ _ _ _ b c d f, hL _ _ b c, hD _ _ d e, hE _ a, hO _ _ e f⟩
  have k := ev_cont C
  exact ⟨fun g i x r e => let ⟨n, hn⟩ := (k.F g i x).1 r e; (all n).1 g i x r hn, fun g i x r e => let ⟨n, hn⟩ := (k.C g i x).1 r e; (all n).2.1 g i x r hn, fun g q i x r e => let ⟨n, hn⟩ := (k.L g q i x).1 r e; (all n).2.2.1 g q i x r hn,
    fun g i x r e => let ⟨n, hn⟩ := (k.D g i x).1 r e; (all n).2.2.2.1 g i x r hn, fun g i x r e => let ⟨n, hn⟩ := (k.E g i x).1 r e; (all n).2.2.2.2.1 g i x r hn, fun g i x r e => let ⟨n, hn⟩ := (k.O g i x).1 r e; (all n).2.2.2.2.2 g i x r hn⟩
end Go.Av
end
