/- Texts that the last one goes by: SrtA, Ty, Cfg, G1z, G2, G10, G11b, G4, G5, G6. -/
import Derived.Test.YtnbdlncbfjkpcaaGreatAvA4
import Derived.Test.YtnbdlncbfjkpcaaGreatProg
import Derived.KernelRfl
set_option linter.all false
set_option linter.unusedVariables false
set_option linter.unusedSimpArgs false
section
set_option linter.unusedVariables false
namespace Go.Av
open Go.Proofs Go.RowKit Go.Sort Go.Shelf
theorem sortsIn (m : Nat) : AnyZ.SortsIn Tryz.prog Tryz.sortedA_ren Fence.wide m :=
  ⟨fun blk off cap ss W hH hblk hsz => callsIn_wide.2 (AnyM.slices_Sort_string Tryz.sortA blk off cap ss W hH hblk hsz),
   fun p cap W => callsIn_wide.2 (AnyM.slices_Sort_string_none Tryz.sortA p cap W)⟩
theorem sorted_ac [Known] (l : List ByteArray) (hl : l.length ≤ 1099511627776) :
    AC Tryz.prog 90 [(0, .box [.d (.sl .any (l.map fun s => [.s s]))])] [.clo 116 [.ptr 0 0]] fun _ _ r o =>
      r = .own 40 ∧ o = [(40, .arr .any 1 ((sStr l).map fun s => [.s s]))] := by
  intro w S β vs _ hbS hkn hvl hr _ hth
  have h1 := hr 0 (by simp) (by rw [← hvl]; simp)
  have hob := (hth.objs 0 _ (lk_cons_eq _ _ _)).1
  have hvs : ∀ v, vs[0]'(by rw [← hvl]; simp) = v → vs = #[v] := by
    intro v e
    apply Array.ext
    · simpa using hvl.symm
    · intro i hi hj
      have : i = 0 := by simpa using hj
      subst this
      simpa using e
  simp only [List.getElem_cons_zero] at h1
  generalize hv : vs[0]'(by rw [← hvl]; simp) = v at h1
  have hvs := hvs v hv
  clear hv
  subst hvs
  have ho : ∀ k ob, lk k [(0, Obj.box [TV.d (.sl .any (l.map fun s => [T.s s]))])] = some ob → k = 0 ∧ ob = .box [TV.d (.sl .any (l.map fun s => [T.s s]))] := by
    intro k ob hk
    by_cases hk0 : k = 0
    · subst hk0; rw [lk_cons_eq] at hk; cases hk; exact ⟨rfl, rfl⟩
    · rw [lk_cons_ne _ _ hk0] at hk; cases hk
  have ho40 : ∀ k ob, lk k [(40, Obj.arr .any 1 ((sStr l).map fun s => [T.s s]))] = some ob → k = 40 ∧ ob = .arr .any 1 ((sStr l).map fun s => [T.s s]) := by
    intro k ob hk
    by_cases hk0 : k = 40
    · subst hk0; rw [lk_cons_eq] at hk; cases hk; exact ⟨rfl, rfl⟩
    · rw [lk_cons_ne _ _ hk0] at hk; cases hk
  obtain ⟨lb, rfl, hlb⟩ : ∃ lb, v = .func (.func 116) #[] lb ∧ lb = #[.pointer (some ⟨(β 0).blk, 0, none⟩)] := by
    cases h1 with
    | @clo _ _ lb hl h =>
      refine ⟨lb, rfl, ?_⟩
      have hx := h 0 (by simp) (by rw [← hl]; simp)
      simp only [List.getElem_cons_zero] at hx
      generalize hy : lb[0]'(by rw [← hl]; simp) = y at hx
      cases hx
      apply Array.ext
      · simpa using hl.symm
      · intro i hi hj
        have : i = 0 := by simpa using hj
        subst this
        simpa using hy
  subst hlb
  obtain ⟨sv, hbt, hcell, hrep⟩ : ∃ sv, (β 0).blk < w.heap.size ∧ w.cell? ⟨(β 0).blk, 0, none⟩ = some sv ∧ Rep w S (.sl .any (l.map fun s => [T.s s])) sv := by
    cases hob with
    | @box _ vs e hv hb hl h =>
      have hx := h 0 (by simp) (by rw [← hl]; simp)
      refine ⟨vs[0]'(by rw [← hl]; simp), ?_, ?_, ?_⟩
      · rcases Nat.lt_or_ge (β 0).blk w.heap.size with h | h
        · exact h
        · rw [Array.getElem?_eq_none h] at hb; cases hb
      · rw [cell_of_block hb, Array.getElem?_eq_getElem (by rw [← hl]; simp)]
      · simp only [List.getElem_cons_zero] at hx
        cases hx with
        | d h => exact h
  have hseq : SeqGivesB Fence.wide 4 Tryz.prog 116 #[.pointer (some ⟨(β 0).blk, 0, none⟩)] encStr (fun xs => xs = (l.map fun s => s.data.toList) ∧ xs.length ≤ l.length) l.length w := by
    intro ll J W hW _ hJB hY h0
    have hc' : W.cell? ⟨(β 0).blk, 0, none⟩ = some sv := (hW.cell (p := ⟨(β 0).blk, 0, none⟩) hbt).trans hcell
    generalize hes : (l.map fun s => [T.s s]) = es at hrep
    cases hrep with
    | nil _ a cap =>
      have : l = [] := List.map_eq_nil_iff.1 hes
      subst this
      exact (values1B_nil 4 ll _ cap a J W hc' h0).mono fun e W' ⟨he, hj⟩ => ⟨he, [], ⟨rfl, by simp⟩, hj⟩
    | sl _ _ B off m cap vv hb hnm hm0 hm hcap hs hc hr =>
      have hlen : es.length = l.length := by rw [← hes]; simp
      by_cases hz : l.length = 0
      · have : l = [] := List.eq_nil_of_length_eq_zero hz
        subst this
        have hes0 : es = [] := by rw [← hes]; rfl
        subst hes0
        exact (values1B_nil 4 ll _ cap _ J W hc' h0).mono fun e W' ⟨he, hj⟩ => ⟨he, [], ⟨rfl, by simp⟩, hj⟩
      · have hm1 : m = 1 := by
          subst hes
          have := hm ((l.map fun s => [T.s s])[0]'(by simp; omega)) (List.getElem_mem _)
          simpa using this.symm
        subst hm1
        have hcs : ∀ j (hj : j < l.length), w.cell? ⟨B, off + j, none⟩ = some (.string l[j]) := by
          intro j hj
          subst hes
          have g1 := hc j 0 (by simpa using hj) (by simp)
          have g2 := hr j 0 (by simpa using hj) (by simp)
          simp only [List.getElem_map, List.getElem_cons_zero, Nat.mul_one, Nat.add_zero] at g1 g2
          rw [g1]
          generalize vv j 0 = y at g2
          cases g2
          rfl
        have hB : B < w.heap.size := by
          subst hes
          exact hbS B _ (hs 0 0 (by simp; omega) (by simp))
        have hzl : (l.map fun s => s.data.toList).length = l.length := by simp
        rw [hlen, ← hzl] at hc'
        refine (values1B 4 ll (β 0).blk w.heap.size B off cap (l.map fun s => s.data.toList) (by omega) (by rw [hzl]; omega) hB J ?_ (by rw [hzl]; exact hY) W hc' h0).mono ?_
        · intro pre W1 hj1 _ j hj
          have hB1 := hJB pre W1 hj1
          refine ⟨?_, ?_⟩
          · rw [hB1.cell (p := ⟨B, off + j, none⟩) hB, hcs j (by rw [hzl] at hj; exact hj)]
            simp [encStr]
          · rw [hzl, ← hlen]
            exact (hB1.cell (p := ⟨(β 0).blk, 0, none⟩) hbt).trans hcell
        · rintro e W' ⟨he, hj⟩
          exact ⟨he, _, ⟨rfl, by simp⟩, hj⟩
  have hmx : maxLen = 9223372036854775807 := by decide
  have cS := sortedB (ρ := Tryz.sortedA_ren) Tryz.sortedA Fence.wide 7 trivial trivial trivial trivial rfl (by omega) (sortsIn _) (enters_of Tryz.func115 (by kernel_rfl) rfl) 116 _ trivial
    (enters_of Tryz.func116 (by kernel_rfl) rfl) (fun xs => xs = l.map fun s => s.data.toList) l.length (by omega) (by omega) w hseq
  refine (callsIn_wide.1 cS).mono ?_
  rintro e w' ⟨v, ss, rfl, rfl, hrow, hnil, hbel⟩
  have hslen : (l.map fun s => s.data.toList).length = l.length := by simp
  have hst : ∀ b x, S b x → w'.cell? ⟨b, x, none⟩ = w.cell? ⟨b, x, none⟩ := fun b x h => hbel.cell (p := ⟨b, x, none⟩) (hbS b x h)
  have fin : ∀ (pl : Pl), (pl.live = true → w.heap.size ≤ pl.blk) → RV Tryz.prog w' S (fun k => if k = 40 then pl else β k) (.own 40) v → OV Tryz.prog w' S (fun k => if k = 40 then pl else β k) 40 (.arr .any 1 ((sStr l).map fun s => [.s s])) →
      ∃ r v1 S' β' outs, Ending.returned v = .returned v1 ∧ (r = .own 40 ∧ outs = [(40, .arr .any 1 ((sStr l).map fun s => [.s s]))]) ∧ RV Tryz.prog w' S' β' r v1 ∧ r.ok (· ∈ keysOf outs) ∧
      There Tryz.prog w' S' β' outs ∧ (∀ k, k < 40 → β' k = β k) ∧ (∀ k ob, lk k outs = some ob → ∀ x, foot (β' k) x → (k < 40 ∧ (ob.writable = true → InX [(0, .box [.d (.sl .any (l.map fun s => [.s s]))])] β x)) ∨ InX [(0, .box [.d (.sl .any (l.map fun s => [.s s]))])] β x ∨ w.heap.size ≤ x) ∧
      (∀ k ob, lk k outs = some ob → k < 40 → k ∈ keysOf [(0, Obj.box [.d (.sl .any (l.map fun s => [.s s]))])]) ∧ ExtX false (InX [(0, .box [.d (.sl .any (l.map fun s => [.s s]))])] β) w S w' S' := by
    intro pl hpl hrv hov
    refine ⟨_, v, S, _, _, rfl, ⟨rfl, rfl⟩, hrv, by simp [TV.ok, keysOf], ⟨?_, ?_, ?_⟩, ?_, ?_, ?_, ⟨⟨fun _ _ h => h, fun _ _ h => .inl h, fun b o h => Nat.lt_of_lt_of_le (hbS b o h) hbel.size, ⟨hbel.os, hbel.tape, hbel.output, hbel.size, fun k hk _ => hbel.block k hk⟩⟩, fun _ _ => Iff.rfl⟩⟩
    · intro k ob hk
      obtain ⟨rfl, rfl⟩ := ho40 k ob hk
      exact ⟨hov, trivial⟩
    · intro k k' ob ob' hk hk' hne
      obtain ⟨rfl, rfl⟩ := ho40 k ob hk
      obtain ⟨rfl, rfl⟩ := ho40 k' ob' hk'
      exact absurd rfl hne
    · intro k ob hk _ x hx z hz
      obtain ⟨rfl, rfl⟩ := ho40 k ob hk
      obtain ⟨h1, h2⟩ := hx
      simp only [if_true] at h1 h2
      have := hpl h1
      have := hbS x z hz
      omega
    · intro k hk
      show (if k = 40 then pl else β k) = β k
      rw [if_neg (by omega)]
    · intro k ob hk x hx
      obtain ⟨rfl, rfl⟩ := ho40 k ob hk
      obtain ⟨h1, h2⟩ := hx
      simp only [if_true] at h1 h2
      exact .inr (.inr (by rw [h2]; exact hpl h1))
    · intro k ob hk hlt
      obtain ⟨rfl, rfl⟩ := ho40 k ob hk
      omega
  rcases hrow.2 with ⟨rfl, hz⟩ | ⟨g, cap, cur, rfl, hbase, hgb, r1, r2, r3, r4⟩
  · have : l = [] := List.eq_nil_of_length_eq_zero (by rw [← hslen]; exact hz)
    subst this
    refine fin ⟨false, 0, 0, 0, 1⟩ (fun h => by cases h) ?_ ?_
    · exact .own 40 none (fun h => by simp at h)
    · have hs0 : sStr [] = [] := by simp [sStr]
      rw [hs0]
      exact OV.arrN (by simp) (by simp) Nat.one_pos (by simp) (by simp)
  · rw [hslen] at r1
    refine fin ⟨true, g, l.length, cap, 1⟩ (fun _ => hbase) ?_ ?_
    · rw [hslen]
      exact .own 40 (some ⟨g, 0, none⟩) (fun _ => rfl)
    · refine .arr rfl hgb ⟨trivial, fun q h => by cases h⟩ rfl (by omega) (by simp [sStr_len]) (by rw [List.length_map, sStr_len]; exact r1) r2 r3 ⟨?_, ?_⟩ (fun t ht => by cases ht)
      · intro x hx
        obtain ⟨s, _, rfl⟩ := List.mem_map.1 hx
        rfl
      · intro i j hi hj
        have hi' : i < (sStr l).length := by simpa using hi
        have hj0 : j = 0 := by simpa using hj
        subst hj0
        have hi2 : i < l.length := by rw [sStr_len] at hi'; exact hi'
        have hget : cur[i]? = some (.string (sStr l)[i]) := by
          have : cur.toList[i]? = (cur.toList.take (l.length * 1))[i]? := by rw [List.getElem?_take, if_pos (by omega)]
          rw [← Array.getElem?_toList, this, ← hslen, r4]
          rw [List.getElem?_map, List.getElem?_eq_getElem (by rw [List.length_mergeSort, hslen]; exact hi2)]
          simp [sStr, encStr]
        refine ⟨_, by rw [Nat.mul_one, Nat.add_zero]; exact hget, ?_⟩
        have : ((sStr l).map fun s => [T.s s])[i][0]'hj = .s (sStr l)[i] := by simp
        rw [this]
        exact .s _
def unS : List (List T) → Option (List ByteArray)
  | [] => some []
  | [.s x] :: l => (unS l).map (x :: ·)
  | _ => none
theorem unS_map (l : List ByteArray) : unS (l.map fun s => [T.s s]) = some l := by
  induction l with
  | nil => rfl
  | cons a l ih => simp only [List.map_cons, unS, ih, Option.map_some]
theorem unS_eq : ∀ {es : List (List T)} {l : List ByteArray}, unS es = some l → es = l.map fun s => [T.s s]
  | [], l, h => by simp only [unS, Option.some.injEq] at h; subst h; rfl
  | e :: es, l, h => by
    unfold unS at h
    split at h
    · rename_i h0; cases h0
    · rename_i x l' h0
      cases h0
      cases hx : unS es with
      | none => rw [hx] at h; cases h
      | some m =>
        rw [hx] at h
        simp only [Option.map_some, Option.some.injEq] at h
        subst h
        rw [List.map_cons, ← unS_eq hx]
    · cases h
def sortedO (v : FuncId) : Objs → List TV → Option (TV × Objs)
  | [(0, .box [.d (.sl .any es)])], [.clo g [.ptr 0 0]] => ob (chk (g == v)) fun _ => ob (unS es) fun l => ob (chk (decide (l.length ≤ 1099511627776))) fun _ => some (.own 40, [(40, .arr .any 1 ((sStr l).map fun s => [.s s]))])
  | _, _ => none
theorem sortedO_ac [Known] : ∀ ins args r, sortedO 116 ins args = some r → Plainly Tryz.prog 90 ∧ AC Tryz.prog 90 ins args fun _ _ r' o' => r' = r.1 ∧ o' = r.2 := by
  intro ins args r h
  unfold sortedO at h
  split at h
  · rename_i es g
    obtain ⟨_, h1, h⟩ := ob_eq_some h
    obtain ⟨l, h2, h⟩ := ob_eq_some h
    obtain ⟨_, h3, h⟩ := ob_eq_some h
    cases h
    have h1 := eq_of_beq (chk_eq_some h1)
    have h2 := unS_eq h2
    have h3 := of_decide_eq_true (chk_eq_some h3)
    subst h1
    subst h2
    exact ⟨⟨_, Tryz.func90, rfl, by decide⟩, sorted_ac l h3⟩
  · cases h
theorem sortedO_eq (v : FuncId) (l : List ByteArray) (hl : l.length ≤ 1099511627776) : sortedO v [(0, .box [.d (.sl .any (l.map fun s => [.s s]))])] [.clo v [.ptr 0 0]] = some (.own 40, [(40, .arr .any 1 ((sStr l).map fun s => [.s s]))]) := by
  simp only [sortedO, beq_self_eq_true, unS_map, decide_eq_true hl, chk, ob, if_true]
end Go.Av
end
section
namespace Go.Av
open Go.Proofs
theorem tyS1 : tySize Tryz.prog 1 = 1 := by kernel_rfl
theorem tyA1 : tyAgg Tryz.prog 1 = some false := by kernel_rfl
theorem tyS2 : tySize Tryz.prog 2 = 1 := by kernel_rfl
theorem tyA2 : tyAgg Tryz.prog 2 = some false := by kernel_rfl
theorem tyG2 : tyTag Tryz.prog 2 = none := by kernel_rfl
theorem tyI2 : tyInt Tryz.prog 2 = some .i64 := by kernel_rfl
theorem tyY2 : tyBytes Tryz.prog 2 = 8 := by kernel_rfl
theorem tyZ2 : tyZero Tryz.prog 2 = some [.d (.i .i64 0)] := by kernel_rfl
theorem tyW2 : tyZeroT Tryz.prog 2 = some [.i .i64 0] := by kernel_rfl
theorem tyS3 : tySize Tryz.prog 3 = 1 := by kernel_rfl
theorem tyA3 : tyAgg Tryz.prog 3 = some false := by kernel_rfl
theorem tyL3 : elAnn Tryz.prog 3 = .any := by kernel_rfl
theorem tyG3 : tyTag Tryz.prog 3 = none := by kernel_rfl
theorem tyI3 : tyInt Tryz.prog 3 = some .i64 := by kernel_rfl
theorem tyY3 : tyBytes Tryz.prog 3 = 8 := by kernel_rfl
theorem tyZ3 : tyZero Tryz.prog 3 = some [.d (.i .i64 0)] := by kernel_rfl
theorem tyW3 : tyZeroT Tryz.prog 3 = some [.i .i64 0] := by kernel_rfl
theorem tyS4 : tySize Tryz.prog 4 = 1 := by kernel_rfl
theorem tyA4 : tyAgg Tryz.prog 4 = some false := by kernel_rfl
theorem tyG4 : tyTag Tryz.prog 4 = none := by kernel_rfl
theorem tyB4 : tyBool Tryz.prog 4 = true := by kernel_rfl
theorem tyY4 : tyBytes Tryz.prog 4 = 1 := by kernel_rfl
theorem tyZ4 : tyZero Tryz.prog 4 = some [.d (.b false)] := by kernel_rfl
theorem tyW4 : tyZeroT Tryz.prog 4 = some [.b false] := by kernel_rfl
theorem tyS5 : tySize Tryz.prog 5 = 1 := by kernel_rfl
theorem tyA5 : tyAgg Tryz.prog 5 = some false := by kernel_rfl
theorem tyL5 : elAnn Tryz.prog 5 = .u8 5 := by kernel_rfl
theorem tyG5 : tyTag Tryz.prog 5 = none := by kernel_rfl
theorem tyI5 : tyInt Tryz.prog 5 = some .u8 := by kernel_rfl
theorem tyY5 : tyBytes Tryz.prog 5 = 1 := by kernel_rfl
theorem tyZ5 : tyZero Tryz.prog 5 = some [.d (.i .u8 0)] := by kernel_rfl
theorem tyW5 : tyZeroT Tryz.prog 5 = some [.i .u8 0] := by kernel_rfl
theorem tyS6 : tySize Tryz.prog 6 = 1 := by kernel_rfl
theorem tyA6 : tyAgg Tryz.prog 6 = some false := by kernel_rfl
theorem tyG6 : tyTag Tryz.prog 6 = none := by kernel_rfl
theorem tyI6 : tyInt Tryz.prog 6 = some .u8 := by kernel_rfl
theorem tyY6 : tyBytes Tryz.prog 6 = 1 := by kernel_rfl
theorem tyZ6 : tyZero Tryz.prog 6 = some [.d (.i .u8 0)] := by kernel_rfl
theorem tyW6 : tyZeroT Tryz.prog 6 = some [.i .u8 0] := by kernel_rfl
theorem tyS7 : tySize Tryz.prog 7 = 4 := by kernel_rfl
theorem tyA7 : tyAgg Tryz.prog 7 = some true := by kernel_rfl
theorem tyG7 : tyTag Tryz.prog 7 = none := by kernel_rfl
theorem tyY7 : tyBytes Tryz.prog 7 = 24 := by kernel_rfl
theorem tyZ7 : tyZero Tryz.prog 7 = some [.d (.i .i64 0), .d (.i .i64 0), .d (.b false), .d (.i .u8 0)] := by kernel_rfl
theorem tyW7 : tyZeroT Tryz.prog 7 = some [.i .i64 0, .i .i64 0, .b false, .i .u8 0] := by kernel_rfl
theorem tyO7_0 : tyOff Tryz.prog 7 0 = some 0 := by kernel_rfl
theorem tyO7_1 : tyOff Tryz.prog 7 1 = some 1 := by kernel_rfl
theorem tyO7_2 : tyOff Tryz.prog 7 2 = some 2 := by kernel_rfl
theorem tyO7_3 : tyOff Tryz.prog 7 3 = some 3 := by kernel_rfl
theorem tyF7 : tyFlds Tryz.prog 7 = some [(0, 1), (1, 1), (2, 1), (3, 1)] := by kernel_rfl
theorem tyS8 : tySize Tryz.prog 8 = 4 := by kernel_rfl
theorem tyA8 : tyAgg Tryz.prog 8 = some true := by kernel_rfl
theorem tyG8 : tyTag Tryz.prog 8 = none := by kernel_rfl
theorem tyY8 : tyBytes Tryz.prog 8 = 24 := by kernel_rfl
theorem tyZ8 : tyZero Tryz.prog 8 = some [.d (.i .i64 0), .d (.i .i64 0), .d (.b false), .d (.i .u8 0)] := by kernel_rfl
theorem tyW8 : tyZeroT Tryz.prog 8 = some [.i .i64 0, .i .i64 0, .b false, .i .u8 0] := by kernel_rfl
theorem tyO8_0 : tyOff Tryz.prog 8 0 = some 0 := by kernel_rfl
theorem tyO8_1 : tyOff Tryz.prog 8 1 = some 1 := by kernel_rfl
theorem tyO8_2 : tyOff Tryz.prog 8 2 = some 2 := by kernel_rfl
theorem tyO8_3 : tyOff Tryz.prog 8 3 = some 3 := by kernel_rfl
theorem tyF8 : tyFlds Tryz.prog 8 = some [(0, 1), (1, 1), (2, 1), (3, 1)] := by kernel_rfl
theorem tyS9 : tySize Tryz.prog 9 = 1 := by kernel_rfl
theorem tyA9 : tyAgg Tryz.prog 9 = some false := by kernel_rfl
theorem tyL9 : elAnn Tryz.prog 9 = .any := by kernel_rfl
theorem tyG9 : tyTag Tryz.prog 9 = none := by kernel_rfl
theorem tyT9 : tyStr Tryz.prog 9 = true := by kernel_rfl
theorem tyI9 : tyInt Tryz.prog 9 = none := by kernel_rfl
theorem tyY9 : tyBytes Tryz.prog 9 = 16 := by kernel_rfl
theorem tyZ9 : tyZero Tryz.prog 9 = some [.d (.s ⟨#[]⟩)] := by kernel_rfl
theorem tyW9 : tyZeroT Tryz.prog 9 = some [.s ⟨#[]⟩] := by kernel_rfl
theorem tyS10 : tySize Tryz.prog 10 = 1 := by kernel_rfl
theorem tyA10 : tyAgg Tryz.prog 10 = some false := by kernel_rfl
theorem tyG10 : tyTag Tryz.prog 10 = none := by kernel_rfl
theorem tyT10 : tyStr Tryz.prog 10 = true := by kernel_rfl
theorem tyI10 : tyInt Tryz.prog 10 = none := by kernel_rfl
theorem tyY10 : tyBytes Tryz.prog 10 = 16 := by kernel_rfl
theorem tyZ10 : tyZero Tryz.prog 10 = some [.d (.s ⟨#[]⟩)] := by kernel_rfl
theorem tyW10 : tyZeroT Tryz.prog 10 = some [.s ⟨#[]⟩] := by kernel_rfl
theorem tyS11 : tySize Tryz.prog 11 = 1 := by kernel_rfl
theorem tyA11 : tyAgg Tryz.prog 11 = some false := by kernel_rfl
theorem tyG11 : tyTag Tryz.prog 11 = none := by kernel_rfl
theorem tyT11 : tyStr Tryz.prog 11 = true := by kernel_rfl
theorem tyI11 : tyInt Tryz.prog 11 = none := by kernel_rfl
theorem tyY11 : tyBytes Tryz.prog 11 = 16 := by kernel_rfl
theorem tyZ11 : tyZero Tryz.prog 11 = some [.d (.s ⟨#[]⟩)] := by kernel_rfl
theorem tyW11 : tyZeroT Tryz.prog 11 = some [.s ⟨#[]⟩] := by kernel_rfl
theorem tyS12 : tySize Tryz.prog 12 = 1 := by kernel_rfl
theorem tyA12 : tyAgg Tryz.prog 12 = some false := by kernel_rfl
theorem tyG12 : tyTag Tryz.prog 12 = none := by kernel_rfl
theorem tyI12 : tyInt Tryz.prog 12 = some .u64 := by kernel_rfl
theorem tyY12 : tyBytes Tryz.prog 12 = 8 := by kernel_rfl
theorem tyZ12 : tyZero Tryz.prog 12 = some [.d (.i .u64 0)] := by kernel_rfl
theorem tyW12 : tyZeroT Tryz.prog 12 = some [.i .u64 0] := by kernel_rfl
theorem tyS13 : tySize Tryz.prog 13 = 2 := by kernel_rfl
theorem tyA13 : tyAgg Tryz.prog 13 = some true := by kernel_rfl
theorem tyG13 : tyTag Tryz.prog 13 = none := by kernel_rfl
theorem tyY13 : tyBytes Tryz.prog 13 = 24 := by kernel_rfl
theorem tyZ13 : tyZero Tryz.prog 13 = some [.d (.s ⟨#[]⟩), .d (.i .u64 0)] := by kernel_rfl
theorem tyW13 : tyZeroT Tryz.prog 13 = some [.s ⟨#[]⟩, .i .u64 0] := by kernel_rfl
theorem tyO13_0 : tyOff Tryz.prog 13 0 = some 0 := by kernel_rfl
theorem tyO13_1 : tyOff Tryz.prog 13 1 = some 1 := by kernel_rfl
theorem tyF13 : tyFlds Tryz.prog 13 = some [(0, 1), (1, 1)] := by kernel_rfl
theorem tyS14 : tySize Tryz.prog 14 = 2 := by kernel_rfl
theorem tyA14 : tyAgg Tryz.prog 14 = some true := by kernel_rfl
theorem tyG14 : tyTag Tryz.prog 14 = none := by kernel_rfl
theorem tyY14 : tyBytes Tryz.prog 14 = 24 := by kernel_rfl
theorem tyZ14 : tyZero Tryz.prog 14 = some [.d (.s ⟨#[]⟩), .d (.i .u64 0)] := by kernel_rfl
theorem tyW14 : tyZeroT Tryz.prog 14 = some [.s ⟨#[]⟩, .i .u64 0] := by kernel_rfl
theorem tyO14_0 : tyOff Tryz.prog 14 0 = some 0 := by kernel_rfl
theorem tyO14_1 : tyOff Tryz.prog 14 1 = some 1 := by kernel_rfl
theorem tyF14 : tyFlds Tryz.prog 14 = some [(0, 1), (1, 1)] := by kernel_rfl
theorem tyS15 : tySize Tryz.prog 15 = 1 := by kernel_rfl
theorem tyA15 : tyAgg Tryz.prog 15 = some false := by kernel_rfl
theorem tyG15 : tyTag Tryz.prog 15 = none := by kernel_rfl
theorem tyQ15 : tyPtr Tryz.prog 15 = some 182 := by kernel_rfl
theorem tyI15 : tyInt Tryz.prog 15 = none := by kernel_rfl
theorem tyT15 : tyStr Tryz.prog 15 = false := by kernel_rfl
theorem tyU15 : tyUns Tryz.prog 15 = false := by kernel_rfl
theorem tyZ15 : tyZero Tryz.prog 15 = some [.d (.raw (.pointer none))] := by kernel_rfl
theorem tyS16 : tySize Tryz.prog 16 = 1 := by kernel_rfl
theorem tyA16 : tyAgg Tryz.prog 16 = some false := by kernel_rfl
theorem tyG16 : tyTag Tryz.prog 16 = none := by kernel_rfl
theorem tyQ16 : tyPtr Tryz.prog 16 = some 185 := by kernel_rfl
theorem tyI16 : tyInt Tryz.prog 16 = none := by kernel_rfl
theorem tyT16 : tyStr Tryz.prog 16 = false := by kernel_rfl
theorem tyU16 : tyUns Tryz.prog 16 = false := by kernel_rfl
theorem tyZ16 : tyZero Tryz.prog 16 = some [.d (.raw (.pointer none))] := by kernel_rfl
theorem tyS17 : tySize Tryz.prog 17 = 1 := by kernel_rfl
theorem tyA17 : tyAgg Tryz.prog 17 = some false := by kernel_rfl
theorem tyG17 : tyTag Tryz.prog 17 = none := by kernel_rfl
theorem tyQ17 : tyPtr Tryz.prog 17 = some 193 := by kernel_rfl
theorem tyI17 : tyInt Tryz.prog 17 = none := by kernel_rfl
theorem tyT17 : tyStr Tryz.prog 17 = false := by kernel_rfl
theorem tyU17 : tyUns Tryz.prog 17 = false := by kernel_rfl
theorem tyZ17 : tyZero Tryz.prog 17 = some [.d (.raw (.pointer none))] := by kernel_rfl
theorem tyS18 : tySize Tryz.prog 18 = 1 := by kernel_rfl
theorem tyA18 : tyAgg Tryz.prog 18 = some true := by kernel_rfl
theorem tyG18 : tyTag Tryz.prog 18 = none := by kernel_rfl
theorem tyY18 : tyBytes Tryz.prog 18 = 8 := by kernel_rfl
theorem tyZ18 : tyZero Tryz.prog 18 = some [.d (.raw (.pointer none))] := by kernel_rfl
theorem tyO18_0 : tyOff Tryz.prog 18 0 = some 0 := by kernel_rfl
theorem tyF18 : tyFlds Tryz.prog 18 = some [(0, 1)] := by kernel_rfl
theorem tyS19 : tySize Tryz.prog 19 = 1 := by kernel_rfl
theorem tyA19 : tyAgg Tryz.prog 19 = some true := by kernel_rfl
theorem tyG19 : tyTag Tryz.prog 19 = none := by kernel_rfl
theorem tyY19 : tyBytes Tryz.prog 19 = 8 := by kernel_rfl
theorem tyZ19 : tyZero Tryz.prog 19 = some [.d (.raw (.pointer none))] := by kernel_rfl
theorem tyO19_0 : tyOff Tryz.prog 19 0 = some 0 := by kernel_rfl
theorem tyF19 : tyFlds Tryz.prog 19 = some [(0, 1)] := by kernel_rfl
theorem tyS21 : tySize Tryz.prog 21 = 1 := by kernel_rfl
theorem tyA21 : tyAgg Tryz.prog 21 = some false := by kernel_rfl
theorem tyG21 : tyTag Tryz.prog 21 = none := by kernel_rfl
theorem tyI21 : tyInt Tryz.prog 21 = some .i32 := by kernel_rfl
theorem tyY21 : tyBytes Tryz.prog 21 = 4 := by kernel_rfl
theorem tyZ21 : tyZero Tryz.prog 21 = some [.d (.i .i32 0)] := by kernel_rfl
theorem tyW21 : tyZeroT Tryz.prog 21 = some [.i .i32 0] := by kernel_rfl
theorem tyS22 : tySize Tryz.prog 22 = 1 := by kernel_rfl
theorem tyA22 : tyAgg Tryz.prog 22 = some false := by kernel_rfl
theorem tyE22 : tyElem Tryz.prog 22 = some 9 := by kernel_rfl
theorem tyI22 : tyInt Tryz.prog 22 = none := by kernel_rfl
theorem tyT22 : tyStr Tryz.prog 22 = false := by kernel_rfl
theorem tyL22 : elAnn Tryz.prog 22 = .any := by kernel_rfl
theorem tyG22 : tyTag Tryz.prog 22 = none := by kernel_rfl
theorem tyY22 : tyBytes Tryz.prog 22 = 24 := by kernel_rfl
theorem tyZ22 : tyZero Tryz.prog 22 = some [.nl] := by kernel_rfl
theorem tyW22 : tyZeroT Tryz.prog 22 = some [.sl .any []] := by kernel_rfl
theorem tyS23 : tySize Tryz.prog 23 = 1 := by kernel_rfl
theorem tyA23 : tyAgg Tryz.prog 23 = some false := by kernel_rfl
theorem tyE23 : tyElem Tryz.prog 23 = some 58 := by kernel_rfl
theorem tyI23 : tyInt Tryz.prog 23 = none := by kernel_rfl
theorem tyT23 : tyStr Tryz.prog 23 = false := by kernel_rfl
theorem tyG23 : tyTag Tryz.prog 23 = none := by kernel_rfl
theorem tyY23 : tyBytes Tryz.prog 23 = 24 := by kernel_rfl
theorem tyZ23 : tyZero Tryz.prog 23 = some [.nl] := by kernel_rfl
theorem tyW23 : tyZeroT Tryz.prog 23 = some [.sl .any []] := by kernel_rfl
theorem tyS24 : tySize Tryz.prog 24 = 5 := by kernel_rfl
theorem tyA24 : tyAgg Tryz.prog 24 = some true := by kernel_rfl
theorem tyG24 : tyTag Tryz.prog 24 = none := by kernel_rfl
theorem tyY24 : tyBytes Tryz.prog 24 = 88 := by kernel_rfl
theorem tyZ24 : tyZero Tryz.prog 24 = some [.d (.i .i64 0), .d (.s ⟨#[]⟩), .nl, .d (.s ⟨#[]⟩), .nl] := by kernel_rfl
theorem tyW24 : tyZeroT Tryz.prog 24 = some [.i .i64 0, .s ⟨#[]⟩, .sl .any [], .s ⟨#[]⟩, .sl .any []] := by kernel_rfl
theorem tyO24_0 : tyOff Tryz.prog 24 0 = some 0 := by kernel_rfl
theorem tyO24_1 : tyOff Tryz.prog 24 1 = some 1 := by kernel_rfl
theorem tyO24_2 : tyOff Tryz.prog 24 2 = some 2 := by kernel_rfl
theorem tyO24_3 : tyOff Tryz.prog 24 3 = some 3 := by kernel_rfl
theorem tyO24_4 : tyOff Tryz.prog 24 4 = some 4 := by kernel_rfl
theorem tyF24 : tyFlds Tryz.prog 24 = some [(0, 1), (1, 1), (2, 1), (3, 1), (4, 1)] := by kernel_rfl
theorem tyS25 : tySize Tryz.prog 25 = 5 := by kernel_rfl
theorem tyA25 : tyAgg Tryz.prog 25 = some true := by kernel_rfl
theorem tyL25 : elAnn Tryz.prog 25 = .any := by kernel_rfl
theorem tyG25 : tyTag Tryz.prog 25 = none := by kernel_rfl
theorem tyY25 : tyBytes Tryz.prog 25 = 88 := by kernel_rfl
theorem tyZ25 : tyZero Tryz.prog 25 = some [.d (.i .i64 0), .d (.s ⟨#[]⟩), .nl, .d (.s ⟨#[]⟩), .nl] := by kernel_rfl
theorem tyW25 : tyZeroT Tryz.prog 25 = some [.i .i64 0, .s ⟨#[]⟩, .sl .any [], .s ⟨#[]⟩, .sl .any []] := by kernel_rfl
theorem tyO25_0 : tyOff Tryz.prog 25 0 = some 0 := by kernel_rfl
theorem tyO25_1 : tyOff Tryz.prog 25 1 = some 1 := by kernel_rfl
theorem tyO25_2 : tyOff Tryz.prog 25 2 = some 2 := by kernel_rfl
theorem tyO25_3 : tyOff Tryz.prog 25 3 = some 3 := by kernel_rfl
theorem tyO25_4 : tyOff Tryz.prog 25 4 = some 4 := by kernel_rfl
theorem tyF25 : tyFlds Tryz.prog 25 = some [(0, 1), (1, 1), (2, 1), (3, 1), (4, 1)] := by kernel_rfl
theorem tyS27 : tySize Tryz.prog 27 = 1 := by kernel_rfl
theorem tyA27 : tyAgg Tryz.prog 27 = some false := by kernel_rfl
theorem tyS28 : tySize Tryz.prog 28 = 1 := by kernel_rfl
theorem tyA28 : tyAgg Tryz.prog 28 = some false := by kernel_rfl
theorem tyS29 : tySize Tryz.prog 29 = 1 := by kernel_rfl
theorem tyA29 : tyAgg Tryz.prog 29 = some false := by kernel_rfl
theorem tyS30 : tySize Tryz.prog 30 = 1 := by kernel_rfl
theorem tyA30 : tyAgg Tryz.prog 30 = some false := by kernel_rfl
theorem tyS31 : tySize Tryz.prog 31 = 1 := by kernel_rfl
theorem tyA31 : tyAgg Tryz.prog 31 = some false := by kernel_rfl
theorem tyE31 : tyElem Tryz.prog 31 = some 25 := by kernel_rfl
theorem tyI31 : tyInt Tryz.prog 31 = none := by kernel_rfl
theorem tyT31 : tyStr Tryz.prog 31 = false := by kernel_rfl
theorem tyG31 : tyTag Tryz.prog 31 = none := by kernel_rfl
theorem tyY31 : tyBytes Tryz.prog 31 = 24 := by kernel_rfl
theorem tyZ31 : tyZero Tryz.prog 31 = some [.nl] := by kernel_rfl
theorem tyW31 : tyZeroT Tryz.prog 31 = some [.sl .any []] := by kernel_rfl
theorem tyS33 : tySize Tryz.prog 33 = 1 := by kernel_rfl
theorem tyA33 : tyAgg Tryz.prog 33 = some false := by kernel_rfl
theorem tyS34 : tySize Tryz.prog 34 = 1 := by kernel_rfl
theorem tyA34 : tyAgg Tryz.prog 34 = some false := by kernel_rfl
theorem tyS35 : tySize Tryz.prog 35 = 1 := by kernel_rfl
theorem tyA35 : tyAgg Tryz.prog 35 = some false := by kernel_rfl
theorem tyS36 : tySize Tryz.prog 36 = 1 := by kernel_rfl
theorem tyA36 : tyAgg Tryz.prog 36 = some false := by kernel_rfl
theorem tyE36 : tyElem Tryz.prog 36 = some 5 := by kernel_rfl
theorem tyI36 : tyInt Tryz.prog 36 = none := by kernel_rfl
theorem tyT36 : tyStr Tryz.prog 36 = false := by kernel_rfl
theorem tyG36 : tyTag Tryz.prog 36 = none := by kernel_rfl
theorem tyY36 : tyBytes Tryz.prog 36 = 24 := by kernel_rfl
theorem tyZ36 : tyZero Tryz.prog 36 = some [.nl] := by kernel_rfl
theorem tyW36 : tyZeroT Tryz.prog 36 = some [.sl .any []] := by kernel_rfl
theorem tyS37 : tySize Tryz.prog 37 = 1 := by kernel_rfl
theorem tyA37 : tyAgg Tryz.prog 37 = some false := by kernel_rfl
theorem tyS39 : tySize Tryz.prog 39 = 1 := by kernel_rfl
theorem tyA39 : tyAgg Tryz.prog 39 = some false := by kernel_rfl
theorem tyS40 : tySize Tryz.prog 40 = 1 := by kernel_rfl
theorem tyA40 : tyAgg Tryz.prog 40 = some false := by kernel_rfl
theorem tyS41 : tySize Tryz.prog 41 = 1 := by kernel_rfl
theorem tyA41 : tyAgg Tryz.prog 41 = some false := by kernel_rfl
theorem tyS43 : tySize Tryz.prog 43 = 1 := by kernel_rfl
theorem tyA43 : tyAgg Tryz.prog 43 = some false := by kernel_rfl
theorem tyS44 : tySize Tryz.prog 44 = 1 := by kernel_rfl
theorem tyA44 : tyAgg Tryz.prog 44 = some false := by kernel_rfl
theorem tyG44 : tyTag Tryz.prog 44 = none := by kernel_rfl
theorem tyI44 : tyInt Tryz.prog 44 = some .u32 := by kernel_rfl
theorem tyY44 : tyBytes Tryz.prog 44 = 4 := by kernel_rfl
theorem tyZ44 : tyZero Tryz.prog 44 = some [.d (.i .u32 0)] := by kernel_rfl
theorem tyW44 : tyZeroT Tryz.prog 44 = some [.i .u32 0] := by kernel_rfl
theorem tyS45 : tySize Tryz.prog 45 = 1 := by kernel_rfl
theorem tyA45 : tyAgg Tryz.prog 45 = some false := by kernel_rfl
theorem tyS46 : tySize Tryz.prog 46 = 1 := by kernel_rfl
theorem tyA46 : tyAgg Tryz.prog 46 = some false := by kernel_rfl
theorem tyS47 : tySize Tryz.prog 47 = 1 := by kernel_rfl
theorem tyA47 : tyAgg Tryz.prog 47 = some false := by kernel_rfl
theorem tyS49 : tySize Tryz.prog 49 = 1 := by kernel_rfl
theorem tyA49 : tyAgg Tryz.prog 49 = some false := by kernel_rfl
theorem tyS51 : tySize Tryz.prog 51 = 1 := by kernel_rfl
theorem tyA51 : tyAgg Tryz.prog 51 = some false := by kernel_rfl
theorem tyS52 : tySize Tryz.prog 52 = 1 := by kernel_rfl
theorem tyA52 : tyAgg Tryz.prog 52 = some false := by kernel_rfl
theorem tyE52 : tyElem Tryz.prog 52 = some 92 := by kernel_rfl
theorem tyI52 : tyInt Tryz.prog 52 = none := by kernel_rfl
theorem tyT52 : tyStr Tryz.prog 52 = false := by kernel_rfl
theorem tyG52 : tyTag Tryz.prog 52 = none := by kernel_rfl
theorem tyY52 : tyBytes Tryz.prog 52 = 24 := by kernel_rfl
theorem tyZ52 : tyZero Tryz.prog 52 = some [.nl] := by kernel_rfl
theorem tyW52 : tyZeroT Tryz.prog 52 = some [.sl .any []] := by kernel_rfl
theorem tyS53 : tySize Tryz.prog 53 = 2 := by kernel_rfl
theorem tyA53 : tyAgg Tryz.prog 53 = some true := by kernel_rfl
theorem tyG53 : tyTag Tryz.prog 53 = none := by kernel_rfl
theorem tyY53 : tyBytes Tryz.prog 53 = 32 := by kernel_rfl
theorem tyZ53 : tyZero Tryz.prog 53 = some [.d (.i .i64 0), .nl] := by kernel_rfl
theorem tyW53 : tyZeroT Tryz.prog 53 = some [.i .i64 0, .sl .any []] := by kernel_rfl
theorem tyO53_0 : tyOff Tryz.prog 53 0 = some 0 := by kernel_rfl
theorem tyO53_1 : tyOff Tryz.prog 53 1 = some 1 := by kernel_rfl
theorem tyF53 : tyFlds Tryz.prog 53 = some [(0, 1), (1, 1)] := by kernel_rfl
theorem tyS54 : tySize Tryz.prog 54 = 2 := by kernel_rfl
theorem tyA54 : tyAgg Tryz.prog 54 = some true := by kernel_rfl
theorem tyG54 : tyTag Tryz.prog 54 = none := by kernel_rfl
theorem tyY54 : tyBytes Tryz.prog 54 = 32 := by kernel_rfl
theorem tyZ54 : tyZero Tryz.prog 54 = some [.d (.i .i64 0), .nl] := by kernel_rfl
theorem tyW54 : tyZeroT Tryz.prog 54 = some [.i .i64 0, .sl .any []] := by kernel_rfl
theorem tyO54_0 : tyOff Tryz.prog 54 0 = some 0 := by kernel_rfl
theorem tyO54_1 : tyOff Tryz.prog 54 1 = some 1 := by kernel_rfl
theorem tyF54 : tyFlds Tryz.prog 54 = some [(0, 1), (1, 1)] := by kernel_rfl
theorem tyS56 : tySize Tryz.prog 56 = 1 := by kernel_rfl
theorem tyA56 : tyAgg Tryz.prog 56 = some false := by kernel_rfl
theorem tyS57 : tySize Tryz.prog 57 = 3 := by kernel_rfl
theorem tyA57 : tyAgg Tryz.prog 57 = some true := by kernel_rfl
theorem tyG57 : tyTag Tryz.prog 57 = none := by kernel_rfl
theorem tyY57 : tyBytes Tryz.prog 57 = 48 := by kernel_rfl
theorem tyZ57 : tyZero Tryz.prog 57 = some [.d (.s ⟨#[]⟩), .d (.i .i64 0), .nl] := by kernel_rfl
theorem tyW57 : tyZeroT Tryz.prog 57 = some [.s ⟨#[]⟩, .i .i64 0, .sl .any []] := by kernel_rfl
theorem tyO57_0 : tyOff Tryz.prog 57 0 = some 0 := by kernel_rfl
theorem tyO57_1 : tyOff Tryz.prog 57 1 = some 1 := by kernel_rfl
theorem tyF57 : tyFlds Tryz.prog 57 = some [(0, 1), (1, 2)] := by kernel_rfl
theorem tyS58 : tySize Tryz.prog 58 = 3 := by kernel_rfl
theorem tyA58 : tyAgg Tryz.prog 58 = some true := by kernel_rfl
theorem tyL58 : elAnn Tryz.prog 58 = .any := by kernel_rfl
theorem tyG58 : tyTag Tryz.prog 58 = none := by kernel_rfl
theorem tyY58 : tyBytes Tryz.prog 58 = 48 := by kernel_rfl
theorem tyZ58 : tyZero Tryz.prog 58 = some [.d (.s ⟨#[]⟩), .d (.i .i64 0), .nl] := by kernel_rfl
theorem tyW58 : tyZeroT Tryz.prog 58 = some [.s ⟨#[]⟩, .i .i64 0, .sl .any []] := by kernel_rfl
theorem tyO58_0 : tyOff Tryz.prog 58 0 = some 0 := by kernel_rfl
theorem tyO58_1 : tyOff Tryz.prog 58 1 = some 1 := by kernel_rfl
theorem tyF58 : tyFlds Tryz.prog 58 = some [(0, 1), (1, 2)] := by kernel_rfl
theorem tyS59 : tySize Tryz.prog 59 = 1 := by kernel_rfl
theorem tyA59 : tyAgg Tryz.prog 59 = some false := by kernel_rfl
theorem tyG59 : tyTag Tryz.prog 59 = none := by kernel_rfl
theorem tyQ59 : tyPtr Tryz.prog 59 = some 61 := by kernel_rfl
theorem tyI59 : tyInt Tryz.prog 59 = none := by kernel_rfl
theorem tyT59 : tyStr Tryz.prog 59 = false := by kernel_rfl
theorem tyU59 : tyUns Tryz.prog 59 = false := by kernel_rfl
theorem tyZ59 : tyZero Tryz.prog 59 = some [.d (.raw (.pointer none))] := by kernel_rfl
theorem tyS60 : tySize Tryz.prog 60 = 3 := by kernel_rfl
theorem tyA60 : tyAgg Tryz.prog 60 = some true := by kernel_rfl
theorem tyG60 : tyTag Tryz.prog 60 = none := by kernel_rfl
theorem tyY60 : tyBytes Tryz.prog 60 = 32 := by kernel_rfl
theorem tyZ60 : tyZero Tryz.prog 60 = some [.d (.s ⟨#[]⟩), .d (.i .i64 0), .d (.b false)] := by kernel_rfl
theorem tyW60 : tyZeroT Tryz.prog 60 = some [.s ⟨#[]⟩, .i .i64 0, .b false] := by kernel_rfl
theorem tyO60_0 : tyOff Tryz.prog 60 0 = some 0 := by kernel_rfl
theorem tyO60_1 : tyOff Tryz.prog 60 1 = some 1 := by kernel_rfl
theorem tyO60_2 : tyOff Tryz.prog 60 2 = some 2 := by kernel_rfl
theorem tyF60 : tyFlds Tryz.prog 60 = some [(0, 1), (1, 1), (2, 1)] := by kernel_rfl
theorem tyS61 : tySize Tryz.prog 61 = 3 := by kernel_rfl
theorem tyA61 : tyAgg Tryz.prog 61 = some true := by kernel_rfl
theorem tyG61 : tyTag Tryz.prog 61 = none := by kernel_rfl
theorem tyY61 : tyBytes Tryz.prog 61 = 32 := by kernel_rfl
theorem tyZ61 : tyZero Tryz.prog 61 = some [.d (.s ⟨#[]⟩), .d (.i .i64 0), .d (.b false)] := by kernel_rfl
theorem tyW61 : tyZeroT Tryz.prog 61 = some [.s ⟨#[]⟩, .i .i64 0, .b false] := by kernel_rfl
theorem tyO61_0 : tyOff Tryz.prog 61 0 = some 0 := by kernel_rfl
theorem tyO61_1 : tyOff Tryz.prog 61 1 = some 1 := by kernel_rfl
theorem tyO61_2 : tyOff Tryz.prog 61 2 = some 2 := by kernel_rfl
theorem tyF61 : tyFlds Tryz.prog 61 = some [(0, 1), (1, 1), (2, 1)] := by kernel_rfl
theorem tyP61 : tyPlain Tryz.prog 61 = some [.s, .i, .b] := by kernel_rfl
theorem tyS62 : tySize Tryz.prog 62 = 1 := by kernel_rfl
theorem tyA62 : tyAgg Tryz.prog 62 = some false := by kernel_rfl
theorem tyS63 : tySize Tryz.prog 63 = 1 := by kernel_rfl
theorem tyA63 : tyAgg Tryz.prog 63 = some false := by kernel_rfl
theorem tyS64 : tySize Tryz.prog 64 = 1 := by kernel_rfl
theorem tyA64 : tyAgg Tryz.prog 64 = some false := by kernel_rfl
theorem tyS65 : tySize Tryz.prog 65 = 1 := by kernel_rfl
theorem tyA65 : tyAgg Tryz.prog 65 = some false := by kernel_rfl
theorem tyS66 : tySize Tryz.prog 66 = 1 := by kernel_rfl
theorem tyA66 : tyAgg Tryz.prog 66 = some false := by kernel_rfl
theorem tyS67 : tySize Tryz.prog 67 = 1 := by kernel_rfl
theorem tyA67 : tyAgg Tryz.prog 67 = some false := by kernel_rfl
theorem tyS68 : tySize Tryz.prog 68 = 1 := by kernel_rfl
theorem tyA68 : tyAgg Tryz.prog 68 = some false := by kernel_rfl
theorem tyG68 : tyTag Tryz.prog 68 = none := by kernel_rfl
theorem tyQ68 : tyPtr Tryz.prog 68 = some 98 := by kernel_rfl
theorem tyI68 : tyInt Tryz.prog 68 = none := by kernel_rfl
theorem tyT68 : tyStr Tryz.prog 68 = false := by kernel_rfl
theorem tyU68 : tyUns Tryz.prog 68 = false := by kernel_rfl
theorem tyZ68 : tyZero Tryz.prog 68 = some [.d (.raw (.pointer none))] := by kernel_rfl
theorem tyS69 : tySize Tryz.prog 69 = 1 := by kernel_rfl
theorem tyA69 : tyAgg Tryz.prog 69 = some false := by kernel_rfl
theorem tyS70 : tySize Tryz.prog 70 = 1 := by kernel_rfl
theorem tyA70 : tyAgg Tryz.prog 70 = some false := by kernel_rfl
theorem tyS71 : tySize Tryz.prog 71 = 1 := by kernel_rfl
theorem tyA71 : tyAgg Tryz.prog 71 = some false := by kernel_rfl
theorem tyS72 : tySize Tryz.prog 72 = 1 := by kernel_rfl
theorem tyA72 : tyAgg Tryz.prog 72 = some false := by kernel_rfl
theorem tyS73 : tySize Tryz.prog 73 = 1 := by kernel_rfl
theorem tyA73 : tyAgg Tryz.prog 73 = some false := by kernel_rfl
theorem tyS74 : tySize Tryz.prog 74 = 1 := by kernel_rfl
theorem tyA74 : tyAgg Tryz.prog 74 = some false := by kernel_rfl
theorem tyS75 : tySize Tryz.prog 75 = 1 := by kernel_rfl
theorem tyA75 : tyAgg Tryz.prog 75 = some false := by kernel_rfl
theorem tyS76 : tySize Tryz.prog 76 = 1 := by kernel_rfl
theorem tyA76 : tyAgg Tryz.prog 76 = some false := by kernel_rfl
theorem tyS77 : tySize Tryz.prog 77 = 1 := by kernel_rfl
theorem tyA77 : tyAgg Tryz.prog 77 = some false := by kernel_rfl
theorem tyS78 : tySize Tryz.prog 78 = 1 := by kernel_rfl
theorem tyA78 : tyAgg Tryz.prog 78 = some false := by kernel_rfl
theorem tyS79 : tySize Tryz.prog 79 = 1 := by kernel_rfl
theorem tyA79 : tyAgg Tryz.prog 79 = some false := by kernel_rfl
theorem tyS80 : tySize Tryz.prog 80 = 1 := by kernel_rfl
theorem tyA80 : tyAgg Tryz.prog 80 = some false := by kernel_rfl
theorem tyS81 : tySize Tryz.prog 81 = 1 := by kernel_rfl
theorem tyA81 : tyAgg Tryz.prog 81 = some false := by kernel_rfl
theorem tyS82 : tySize Tryz.prog 82 = 1 := by kernel_rfl
theorem tyA82 : tyAgg Tryz.prog 82 = some false := by kernel_rfl
theorem tyS83 : tySize Tryz.prog 83 = 2 := by kernel_rfl
theorem tyA83 : tyAgg Tryz.prog 83 = some true := by kernel_rfl
theorem tyG83 : tyTag Tryz.prog 83 = none := by kernel_rfl
theorem tyY83 : tyBytes Tryz.prog 83 = 40 := by kernel_rfl
theorem tyZ83 : tyZero Tryz.prog 83 = some [.d (.s ⟨#[]⟩), .nl] := by kernel_rfl
theorem tyW83 : tyZeroT Tryz.prog 83 = some [.s ⟨#[]⟩, .sl .any []] := by kernel_rfl
theorem tyO83_0 : tyOff Tryz.prog 83 0 = some 0 := by kernel_rfl
theorem tyO83_1 : tyOff Tryz.prog 83 1 = some 1 := by kernel_rfl
theorem tyF83 : tyFlds Tryz.prog 83 = some [(0, 1), (1, 1)] := by kernel_rfl
theorem tyS84 : tySize Tryz.prog 84 = 2 := by kernel_rfl
theorem tyA84 : tyAgg Tryz.prog 84 = some true := by kernel_rfl
theorem tyL84 : elAnn Tryz.prog 84 = .any := by kernel_rfl
theorem tyG84 : tyTag Tryz.prog 84 = none := by kernel_rfl
theorem tyY84 : tyBytes Tryz.prog 84 = 40 := by kernel_rfl
theorem tyZ84 : tyZero Tryz.prog 84 = some [.d (.s ⟨#[]⟩), .nl] := by kernel_rfl
theorem tyW84 : tyZeroT Tryz.prog 84 = some [.s ⟨#[]⟩, .sl .any []] := by kernel_rfl
theorem tyO84_0 : tyOff Tryz.prog 84 0 = some 0 := by kernel_rfl
theorem tyO84_1 : tyOff Tryz.prog 84 1 = some 1 := by kernel_rfl
theorem tyF84 : tyFlds Tryz.prog 84 = some [(0, 1), (1, 1)] := by kernel_rfl
theorem tyS85 : tySize Tryz.prog 85 = 1 := by kernel_rfl
theorem tyA85 : tyAgg Tryz.prog 85 = some false := by kernel_rfl
theorem tyE85 : tyElem Tryz.prog 85 = some 84 := by kernel_rfl
theorem tyI85 : tyInt Tryz.prog 85 = none := by kernel_rfl
theorem tyT85 : tyStr Tryz.prog 85 = false := by kernel_rfl
theorem tyG85 : tyTag Tryz.prog 85 = none := by kernel_rfl
theorem tyY85 : tyBytes Tryz.prog 85 = 24 := by kernel_rfl
theorem tyZ85 : tyZero Tryz.prog 85 = some [.nl] := by kernel_rfl
theorem tyW85 : tyZeroT Tryz.prog 85 = some [.sl .any []] := by kernel_rfl
theorem tyS86 : tySize Tryz.prog 86 = 3 := by kernel_rfl
theorem tyA86 : tyAgg Tryz.prog 86 = some true := by kernel_rfl
theorem tyG86 : tyTag Tryz.prog 86 = none := by kernel_rfl
theorem tyY86 : tyBytes Tryz.prog 86 = 32 := by kernel_rfl
theorem tyZ86 : tyZero Tryz.prog 86 = some [.d (.i .i64 0), .d (.i .i64 0), .d (.s ⟨#[]⟩)] := by kernel_rfl
theorem tyW86 : tyZeroT Tryz.prog 86 = some [.i .i64 0, .i .i64 0, .s ⟨#[]⟩] := by kernel_rfl
theorem tyO86_0 : tyOff Tryz.prog 86 0 = some 0 := by kernel_rfl
theorem tyO86_1 : tyOff Tryz.prog 86 1 = some 1 := by kernel_rfl
theorem tyO86_2 : tyOff Tryz.prog 86 2 = some 2 := by kernel_rfl
theorem tyF86 : tyFlds Tryz.prog 86 = some [(0, 1), (1, 1), (2, 1)] := by kernel_rfl
theorem tyS87 : tySize Tryz.prog 87 = 3 := by kernel_rfl
theorem tyA87 : tyAgg Tryz.prog 87 = some true := by kernel_rfl
theorem tyL87 : elAnn Tryz.prog 87 = .any := by kernel_rfl
theorem tyG87 : tyTag Tryz.prog 87 = none := by kernel_rfl
theorem tyY87 : tyBytes Tryz.prog 87 = 32 := by kernel_rfl
theorem tyZ87 : tyZero Tryz.prog 87 = some [.d (.i .i64 0), .d (.i .i64 0), .d (.s ⟨#[]⟩)] := by kernel_rfl
theorem tyW87 : tyZeroT Tryz.prog 87 = some [.i .i64 0, .i .i64 0, .s ⟨#[]⟩] := by kernel_rfl
theorem tyO87_0 : tyOff Tryz.prog 87 0 = some 0 := by kernel_rfl
theorem tyO87_1 : tyOff Tryz.prog 87 1 = some 1 := by kernel_rfl
theorem tyO87_2 : tyOff Tryz.prog 87 2 = some 2 := by kernel_rfl
theorem tyF87 : tyFlds Tryz.prog 87 = some [(0, 1), (1, 1), (2, 1)] := by kernel_rfl
theorem tyP87 : tyPlain Tryz.prog 87 = some [.i, .i, .s] := by kernel_rfl
theorem tyS89 : tySize Tryz.prog 89 = 1 := by kernel_rfl
theorem tyA89 : tyAgg Tryz.prog 89 = some false := by kernel_rfl
theorem tyS90 : tySize Tryz.prog 90 = 1 := by kernel_rfl
theorem tyA90 : tyAgg Tryz.prog 90 = some false := by kernel_rfl
theorem tyE90 : tyElem Tryz.prog 90 = some 87 := by kernel_rfl
theorem tyI90 : tyInt Tryz.prog 90 = none := by kernel_rfl
theorem tyT90 : tyStr Tryz.prog 90 = false := by kernel_rfl
theorem tyL90 : elAnn Tryz.prog 90 = .any := by kernel_rfl
theorem tyG90 : tyTag Tryz.prog 90 = none := by kernel_rfl
theorem tyY90 : tyBytes Tryz.prog 90 = 24 := by kernel_rfl
theorem tyZ90 : tyZero Tryz.prog 90 = some [.nl] := by kernel_rfl
theorem tyW90 : tyZeroT Tryz.prog 90 = some [.sl .any []] := by kernel_rfl
theorem tyS91 : tySize Tryz.prog 91 = 2 := by kernel_rfl
theorem tyA91 : tyAgg Tryz.prog 91 = some true := by kernel_rfl
theorem tyG91 : tyTag Tryz.prog 91 = none := by kernel_rfl
theorem tyY91 : tyBytes Tryz.prog 91 = 32 := by kernel_rfl
theorem tyZ91 : tyZero Tryz.prog 91 = some [.nl, .d (.i .i64 0)] := by kernel_rfl
theorem tyW91 : tyZeroT Tryz.prog 91 = some [.sl .any [], .i .i64 0] := by kernel_rfl
theorem tyO91_0 : tyOff Tryz.prog 91 0 = some 0 := by kernel_rfl
theorem tyO91_1 : tyOff Tryz.prog 91 1 = some 1 := by kernel_rfl
theorem tyF91 : tyFlds Tryz.prog 91 = some [(0, 1), (1, 1)] := by kernel_rfl
theorem tyS92 : tySize Tryz.prog 92 = 2 := by kernel_rfl
theorem tyA92 : tyAgg Tryz.prog 92 = some true := by kernel_rfl
theorem tyL92 : elAnn Tryz.prog 92 = .any := by kernel_rfl
theorem tyG92 : tyTag Tryz.prog 92 = none := by kernel_rfl
theorem tyY92 : tyBytes Tryz.prog 92 = 32 := by kernel_rfl
theorem tyZ92 : tyZero Tryz.prog 92 = some [.nl, .d (.i .i64 0)] := by kernel_rfl
theorem tyW92 : tyZeroT Tryz.prog 92 = some [.sl .any [], .i .i64 0] := by kernel_rfl
theorem tyO92_0 : tyOff Tryz.prog 92 0 = some 0 := by kernel_rfl
theorem tyO92_1 : tyOff Tryz.prog 92 1 = some 1 := by kernel_rfl
theorem tyF92 : tyFlds Tryz.prog 92 = some [(0, 1), (1, 1)] := by kernel_rfl
theorem tyS93 : tySize Tryz.prog 93 = 1 := by kernel_rfl
theorem tyA93 : tyAgg Tryz.prog 93 = some false := by kernel_rfl
theorem tyS94 : tySize Tryz.prog 94 = 1 := by kernel_rfl
theorem tyA94 : tyAgg Tryz.prog 94 = some false := by kernel_rfl
theorem tyS95 : tySize Tryz.prog 95 = 1 := by kernel_rfl
theorem tyA95 : tyAgg Tryz.prog 95 = some false := by kernel_rfl
theorem tyS96 : tySize Tryz.prog 96 = 1 := by kernel_rfl
theorem tyA96 : tyAgg Tryz.prog 96 = some false := by kernel_rfl
theorem tyS97 : tySize Tryz.prog 97 = 3 := by kernel_rfl
theorem tyA97 : tyAgg Tryz.prog 97 = some true := by kernel_rfl
theorem tyG97 : tyTag Tryz.prog 97 = none := by kernel_rfl
theorem tyY97 : tyBytes Tryz.prog 97 = 40 := by kernel_rfl
theorem tyZ97 : tyZero Tryz.prog 97 = some [.nl, .d (.i .i64 0), .d (.i .i64 0)] := by kernel_rfl
theorem tyW97 : tyZeroT Tryz.prog 97 = some [.sl .any [], .i .i64 0, .i .i64 0] := by kernel_rfl
theorem tyO97_0 : tyOff Tryz.prog 97 0 = some 0 := by kernel_rfl
theorem tyO97_1 : tyOff Tryz.prog 97 1 = some 1 := by kernel_rfl
theorem tyO97_2 : tyOff Tryz.prog 97 2 = some 2 := by kernel_rfl
theorem tyF97 : tyFlds Tryz.prog 97 = some [(0, 1), (1, 1), (2, 1)] := by kernel_rfl
theorem tyS98 : tySize Tryz.prog 98 = 3 := by kernel_rfl
theorem tyA98 : tyAgg Tryz.prog 98 = some true := by kernel_rfl
theorem tyG98 : tyTag Tryz.prog 98 = none := by kernel_rfl
theorem tyY98 : tyBytes Tryz.prog 98 = 40 := by kernel_rfl
theorem tyZ98 : tyZero Tryz.prog 98 = some [.nl, .d (.i .i64 0), .d (.i .i64 0)] := by kernel_rfl
theorem tyW98 : tyZeroT Tryz.prog 98 = some [.sl .any [], .i .i64 0, .i .i64 0] := by kernel_rfl
theorem tyO98_0 : tyOff Tryz.prog 98 0 = some 0 := by kernel_rfl
theorem tyO98_1 : tyOff Tryz.prog 98 1 = some 1 := by kernel_rfl
theorem tyO98_2 : tyOff Tryz.prog 98 2 = some 2 := by kernel_rfl
theorem tyF98 : tyFlds Tryz.prog 98 = some [(0, 1), (1, 1), (2, 1)] := by kernel_rfl
theorem tyS99 : tySize Tryz.prog 99 = 1 := by kernel_rfl
theorem tyA99 : tyAgg Tryz.prog 99 = some false := by kernel_rfl
theorem tyS100 : tySize Tryz.prog 100 = 1 := by kernel_rfl
theorem tyA100 : tyAgg Tryz.prog 100 = some false := by kernel_rfl
theorem tyS101 : tySize Tryz.prog 101 = 1 := by kernel_rfl
theorem tyA101 : tyAgg Tryz.prog 101 = some false := by kernel_rfl
theorem tyE101 : tyElem Tryz.prog 101 = some 22 := by kernel_rfl
theorem tyI101 : tyInt Tryz.prog 101 = none := by kernel_rfl
theorem tyT101 : tyStr Tryz.prog 101 = false := by kernel_rfl
theorem tyG101 : tyTag Tryz.prog 101 = none := by kernel_rfl
theorem tyY101 : tyBytes Tryz.prog 101 = 24 := by kernel_rfl
theorem tyZ101 : tyZero Tryz.prog 101 = some [.nl] := by kernel_rfl
theorem tyW101 : tyZeroT Tryz.prog 101 = some [.sl .any []] := by kernel_rfl
theorem tyS102 : tySize Tryz.prog 102 = 1 := by kernel_rfl
theorem tyA102 : tyAgg Tryz.prog 102 = some false := by kernel_rfl
theorem tyS103 : tySize Tryz.prog 103 = 1 := by kernel_rfl
theorem tyA103 : tyAgg Tryz.prog 103 = some false := by kernel_rfl
theorem tyS104 : tySize Tryz.prog 104 = 1 := by kernel_rfl
theorem tyA104 : tyAgg Tryz.prog 104 = some false := by kernel_rfl
theorem tyG104 : tyTag Tryz.prog 104 = none := by kernel_rfl
theorem tyQ104 : tyPtr Tryz.prog 104 = some 106 := by kernel_rfl
theorem tyI104 : tyInt Tryz.prog 104 = none := by kernel_rfl
theorem tyT104 : tyStr Tryz.prog 104 = false := by kernel_rfl
theorem tyU104 : tyUns Tryz.prog 104 = false := by kernel_rfl
theorem tyZ104 : tyZero Tryz.prog 104 = some [.d (.raw (.pointer none))] := by kernel_rfl
theorem tyS105 : tySize Tryz.prog 105 = 2 := by kernel_rfl
theorem tyA105 : tyAgg Tryz.prog 105 = some true := by kernel_rfl
theorem tyG105 : tyTag Tryz.prog 105 = none := by kernel_rfl
theorem tyY105 : tyBytes Tryz.prog 105 = 32 := by kernel_rfl
theorem tyZ105 : tyZero Tryz.prog 105 = some [.d (.raw (.pointer none)), .nl] := by kernel_rfl
theorem tyO105_0 : tyOff Tryz.prog 105 0 = some 0 := by kernel_rfl
theorem tyO105_1 : tyOff Tryz.prog 105 1 = some 1 := by kernel_rfl
theorem tyF105 : tyFlds Tryz.prog 105 = some [(0, 1), (1, 1)] := by kernel_rfl
theorem tyS106 : tySize Tryz.prog 106 = 2 := by kernel_rfl
theorem tyA106 : tyAgg Tryz.prog 106 = some true := by kernel_rfl
theorem tyG106 : tyTag Tryz.prog 106 = some 106 := by kernel_rfl
theorem tyV106 : liesAt Tryz.prog Tryz.prog.depth 106 (2 / Tryz.prog.cellsOf 106) 0 106 1 = true := by kernel_rfl
theorem tyY106 : tyBytes Tryz.prog 106 = 32 := by kernel_rfl
theorem tyZ106 : tyZero Tryz.prog 106 = some [.d (.raw (.pointer none)), .nl] := by kernel_rfl
theorem tyO106_0 : tyOff Tryz.prog 106 0 = some 0 := by kernel_rfl
theorem tyO106_1 : tyOff Tryz.prog 106 1 = some 1 := by kernel_rfl
theorem tyF106 : tyFlds Tryz.prog 106 = some [(0, 1), (1, 1)] := by kernel_rfl
theorem tyS110 : tySize Tryz.prog 110 = 1 := by kernel_rfl
theorem tyA110 : tyAgg Tryz.prog 110 = some false := by kernel_rfl
theorem tyS111 : tySize Tryz.prog 111 = 1 := by kernel_rfl
theorem tyA111 : tyAgg Tryz.prog 111 = some false := by kernel_rfl
theorem tyS112 : tySize Tryz.prog 112 = 1 := by kernel_rfl
theorem tyA112 : tyAgg Tryz.prog 112 = some false := by kernel_rfl
theorem tyS113 : tySize Tryz.prog 113 = 1 := by kernel_rfl
theorem tyA113 : tyAgg Tryz.prog 113 = some false := by kernel_rfl
theorem tyS114 : tySize Tryz.prog 114 = 1 := by kernel_rfl
theorem tyA114 : tyAgg Tryz.prog 114 = some false := by kernel_rfl
theorem tyS115 : tySize Tryz.prog 115 = 1 := by kernel_rfl
theorem tyA115 : tyAgg Tryz.prog 115 = some false := by kernel_rfl
theorem tyS116 : tySize Tryz.prog 116 = 1 := by kernel_rfl
theorem tyA116 : tyAgg Tryz.prog 116 = some false := by kernel_rfl
theorem tyS117 : tySize Tryz.prog 117 = 1 := by kernel_rfl
theorem tyA117 : tyAgg Tryz.prog 117 = some false := by kernel_rfl
theorem tyS118 : tySize Tryz.prog 118 = 1 := by kernel_rfl
theorem tyA118 : tyAgg Tryz.prog 118 = some false := by kernel_rfl
theorem tyS119 : tySize Tryz.prog 119 = 1 := by kernel_rfl
theorem tyA119 : tyAgg Tryz.prog 119 = some false := by kernel_rfl
theorem tyS120 : tySize Tryz.prog 120 = 1 := by kernel_rfl
theorem tyA120 : tyAgg Tryz.prog 120 = some false := by kernel_rfl
theorem tyS121 : tySize Tryz.prog 121 = 1 := by kernel_rfl
theorem tyA121 : tyAgg Tryz.prog 121 = some false := by kernel_rfl
theorem tyS122 : tySize Tryz.prog 122 = 1 := by kernel_rfl
theorem tyA122 : tyAgg Tryz.prog 122 = some false := by kernel_rfl
theorem tyS123 : tySize Tryz.prog 123 = 1 := by kernel_rfl
theorem tyA123 : tyAgg Tryz.prog 123 = some false := by kernel_rfl
theorem tyS124 : tySize Tryz.prog 124 = 1 := by kernel_rfl
theorem tyA124 : tyAgg Tryz.prog 124 = some false := by kernel_rfl
theorem tyG124 : tyTag Tryz.prog 124 = none := by kernel_rfl
theorem tyI124 : tyInt Tryz.prog 124 = some .u64 := by kernel_rfl
theorem tyY124 : tyBytes Tryz.prog 124 = 8 := by kernel_rfl
theorem tyZ124 : tyZero Tryz.prog 124 = some [.d (.i .u64 0)] := by kernel_rfl
theorem tyW124 : tyZeroT Tryz.prog 124 = some [.i .u64 0] := by kernel_rfl
theorem tyS125 : tySize Tryz.prog 125 = 1 := by kernel_rfl
theorem tyA125 : tyAgg Tryz.prog 125 = some false := by kernel_rfl
theorem tyS126 : tySize Tryz.prog 126 = 1 := by kernel_rfl
theorem tyA126 : tyAgg Tryz.prog 126 = some false := by kernel_rfl
theorem tyG126 : tyTag Tryz.prog 126 = none := by kernel_rfl
theorem tyI126 : tyInt Tryz.prog 126 = some .u64 := by kernel_rfl
theorem tyY126 : tyBytes Tryz.prog 126 = 8 := by kernel_rfl
theorem tyZ126 : tyZero Tryz.prog 126 = some [.d (.i .u64 0)] := by kernel_rfl
theorem tyW126 : tyZeroT Tryz.prog 126 = some [.i .u64 0] := by kernel_rfl
theorem tyS127 : tySize Tryz.prog 127 = 1 := by kernel_rfl
theorem tyA127 : tyAgg Tryz.prog 127 = some false := by kernel_rfl
theorem tyS128 : tySize Tryz.prog 128 = 1 := by kernel_rfl
theorem tyA128 : tyAgg Tryz.prog 128 = some false := by kernel_rfl
theorem tyS129 : tySize Tryz.prog 129 = 1 := by kernel_rfl
theorem tyA129 : tyAgg Tryz.prog 129 = some false := by kernel_rfl
theorem tyS130 : tySize Tryz.prog 130 = 1 := by kernel_rfl
theorem tyA130 : tyAgg Tryz.prog 130 = some false := by kernel_rfl
theorem tyS131 : tySize Tryz.prog 131 = 1 := by kernel_rfl
theorem tyA131 : tyAgg Tryz.prog 131 = some false := by kernel_rfl
theorem tyS132 : tySize Tryz.prog 132 = 1 := by kernel_rfl
theorem tyA132 : tyAgg Tryz.prog 132 = some false := by kernel_rfl
theorem tyS133 : tySize Tryz.prog 133 = 1 := by kernel_rfl
theorem tyA133 : tyAgg Tryz.prog 133 = some false := by kernel_rfl
theorem tyS134 : tySize Tryz.prog 134 = 1 := by kernel_rfl
theorem tyA134 : tyAgg Tryz.prog 134 = some false := by kernel_rfl
theorem tyG134 : tyTag Tryz.prog 134 = none := by kernel_rfl
theorem tyQ134 : tyPtr Tryz.prog 134 = some 5 := by kernel_rfl
theorem tyI134 : tyInt Tryz.prog 134 = none := by kernel_rfl
theorem tyT134 : tyStr Tryz.prog 134 = false := by kernel_rfl
theorem tyU134 : tyUns Tryz.prog 134 = false := by kernel_rfl
theorem tyZ134 : tyZero Tryz.prog 134 = some [.d (.raw (.pointer none))] := by kernel_rfl
theorem tyS135 : tySize Tryz.prog 135 = 1 := by kernel_rfl
theorem tyA135 : tyAgg Tryz.prog 135 = some false := by kernel_rfl
theorem tyS136 : tySize Tryz.prog 136 = 1 := by kernel_rfl
theorem tyA136 : tyAgg Tryz.prog 136 = some false := by kernel_rfl
theorem tyS137 : tySize Tryz.prog 137 = 1 := by kernel_rfl
theorem tyA137 : tyAgg Tryz.prog 137 = some false := by kernel_rfl
theorem tyS138 : tySize Tryz.prog 138 = 1 := by kernel_rfl
theorem tyA138 : tyAgg Tryz.prog 138 = some false := by kernel_rfl
theorem tyS139 : tySize Tryz.prog 139 = 1 := by kernel_rfl
theorem tyA139 : tyAgg Tryz.prog 139 = some false := by kernel_rfl
theorem tyS140 : tySize Tryz.prog 140 = 1 := by kernel_rfl
theorem tyA140 : tyAgg Tryz.prog 140 = some false := by kernel_rfl
theorem tyS141 : tySize Tryz.prog 141 = 1 := by kernel_rfl
theorem tyA141 : tyAgg Tryz.prog 141 = some false := by kernel_rfl
theorem tyS142 : tySize Tryz.prog 142 = 1 := by kernel_rfl
theorem tyA142 : tyAgg Tryz.prog 142 = some false := by kernel_rfl
theorem tyE142 : tyElem Tryz.prog 142 = some 90 := by kernel_rfl
theorem tyI142 : tyInt Tryz.prog 142 = none := by kernel_rfl
theorem tyT142 : tyStr Tryz.prog 142 = false := by kernel_rfl
theorem tyG142 : tyTag Tryz.prog 142 = none := by kernel_rfl
theorem tyY142 : tyBytes Tryz.prog 142 = 24 := by kernel_rfl
theorem tyZ142 : tyZero Tryz.prog 142 = some [.nl] := by kernel_rfl
theorem tyW142 : tyZeroT Tryz.prog 142 = some [.sl .any []] := by kernel_rfl
theorem tyS143 : tySize Tryz.prog 143 = 1 := by kernel_rfl
theorem tyA143 : tyAgg Tryz.prog 143 = some false := by kernel_rfl
theorem tyS144 : tySize Tryz.prog 144 = 1 := by kernel_rfl
theorem tyA144 : tyAgg Tryz.prog 144 = some false := by kernel_rfl
theorem tyS145 : tySize Tryz.prog 145 = 1 := by kernel_rfl
theorem tyA145 : tyAgg Tryz.prog 145 = some false := by kernel_rfl
theorem tyS146 : tySize Tryz.prog 146 = 1 := by kernel_rfl
theorem tyA146 : tyAgg Tryz.prog 146 = some false := by kernel_rfl
theorem tyE146 : tyElem Tryz.prog 146 = some 3 := by kernel_rfl
theorem tyI146 : tyInt Tryz.prog 146 = none := by kernel_rfl
theorem tyT146 : tyStr Tryz.prog 146 = false := by kernel_rfl
theorem tyG146 : tyTag Tryz.prog 146 = none := by kernel_rfl
theorem tyY146 : tyBytes Tryz.prog 146 = 24 := by kernel_rfl
theorem tyZ146 : tyZero Tryz.prog 146 = some [.nl] := by kernel_rfl
theorem tyW146 : tyZeroT Tryz.prog 146 = some [.sl .any []] := by kernel_rfl
theorem tyS147 : tySize Tryz.prog 147 = 1 := by kernel_rfl
theorem tyA147 : tyAgg Tryz.prog 147 = some false := by kernel_rfl
theorem tyU147 : tyUns Tryz.prog 147 = true := by kernel_rfl
theorem tyI147 : tyInt Tryz.prog 147 = none := by kernel_rfl
theorem tyT147 : tyStr Tryz.prog 147 = false := by kernel_rfl
theorem tyQ147 : tyPtr Tryz.prog 147 = none := by kernel_rfl
theorem tyS148 : tySize Tryz.prog 148 = 1 := by kernel_rfl
theorem tyA148 : tyAgg Tryz.prog 148 = some false := by kernel_rfl
theorem tyS149 : tySize Tryz.prog 149 = 1 := by kernel_rfl
theorem tyA149 : tyAgg Tryz.prog 149 = some false := by kernel_rfl
theorem tyS150 : tySize Tryz.prog 150 = 1 := by kernel_rfl
theorem tyA150 : tyAgg Tryz.prog 150 = some false := by kernel_rfl
theorem tyS151 : tySize Tryz.prog 151 = 1 := by kernel_rfl
theorem tyA151 : tyAgg Tryz.prog 151 = some false := by kernel_rfl
theorem tyS152 : tySize Tryz.prog 152 = 1 := by kernel_rfl
theorem tyA152 : tyAgg Tryz.prog 152 = some false := by kernel_rfl
theorem tyS153 : tySize Tryz.prog 153 = 1 := by kernel_rfl
theorem tyA153 : tyAgg Tryz.prog 153 = some false := by kernel_rfl
theorem tyS154 : tySize Tryz.prog 154 = 1 := by kernel_rfl
theorem tyA154 : tyAgg Tryz.prog 154 = some false := by kernel_rfl
theorem tyS155 : tySize Tryz.prog 155 = 1 := by kernel_rfl
theorem tyA155 : tyAgg Tryz.prog 155 = some false := by kernel_rfl
theorem tyS156 : tySize Tryz.prog 156 = 1 := by kernel_rfl
theorem tyA156 : tyAgg Tryz.prog 156 = some false := by kernel_rfl
theorem tyS157 : tySize Tryz.prog 157 = 1 := by kernel_rfl
theorem tyA157 : tyAgg Tryz.prog 157 = some false := by kernel_rfl
theorem tyS158 : tySize Tryz.prog 158 = 1 := by kernel_rfl
theorem tyA158 : tyAgg Tryz.prog 158 = some false := by kernel_rfl
theorem tyS159 : tySize Tryz.prog 159 = 1 := by kernel_rfl
theorem tyA159 : tyAgg Tryz.prog 159 = some false := by kernel_rfl
theorem tyG159 : tyTag Tryz.prog 159 = none := by kernel_rfl
theorem tyI159 : tyInt Tryz.prog 159 = some .i64 := by kernel_rfl
theorem tyY159 : tyBytes Tryz.prog 159 = 8 := by kernel_rfl
theorem tyZ159 : tyZero Tryz.prog 159 = some [.d (.i .i64 0)] := by kernel_rfl
theorem tyW159 : tyZeroT Tryz.prog 159 = some [.i .i64 0] := by kernel_rfl
theorem tyS161 : tySize Tryz.prog 161 = 1 := by kernel_rfl
theorem tyA161 : tyAgg Tryz.prog 161 = some false := by kernel_rfl
theorem tyS162 : tySize Tryz.prog 162 = 1 := by kernel_rfl
theorem tyA162 : tyAgg Tryz.prog 162 = some false := by kernel_rfl
theorem tyS163 : tySize Tryz.prog 163 = 1 := by kernel_rfl
theorem tyA163 : tyAgg Tryz.prog 163 = some false := by kernel_rfl
theorem tyS164 : tySize Tryz.prog 164 = 1 := by kernel_rfl
theorem tyA164 : tyAgg Tryz.prog 164 = some false := by kernel_rfl
theorem tyS166 : tySize Tryz.prog 166 = 1 := by kernel_rfl
theorem tyA166 : tyAgg Tryz.prog 166 = some false := by kernel_rfl
theorem tyS167 : tySize Tryz.prog 167 = 1 := by kernel_rfl
theorem tyA167 : tyAgg Tryz.prog 167 = some false := by kernel_rfl
theorem tyS168 : tySize Tryz.prog 168 = 1 := by kernel_rfl
theorem tyA168 : tyAgg Tryz.prog 168 = some false := by kernel_rfl
theorem tyS169 : tySize Tryz.prog 169 = 1 := by kernel_rfl
theorem tyA169 : tyAgg Tryz.prog 169 = some false := by kernel_rfl
theorem tyS170 : tySize Tryz.prog 170 = 1 := by kernel_rfl
theorem tyA170 : tyAgg Tryz.prog 170 = some false := by kernel_rfl
theorem tyS171 : tySize Tryz.prog 171 = 1 := by kernel_rfl
theorem tyA171 : tyAgg Tryz.prog 171 = some false := by kernel_rfl
theorem tyS172 : tySize Tryz.prog 172 = 1 := by kernel_rfl
theorem tyA172 : tyAgg Tryz.prog 172 = some false := by kernel_rfl
theorem tyG172 : tyTag Tryz.prog 172 = none := by kernel_rfl
theorem tyI172 : tyInt Tryz.prog 172 = some .u64 := by kernel_rfl
theorem tyY172 : tyBytes Tryz.prog 172 = 8 := by kernel_rfl
theorem tyZ172 : tyZero Tryz.prog 172 = some [.d (.i .u64 0)] := by kernel_rfl
theorem tyW172 : tyZeroT Tryz.prog 172 = some [.i .u64 0] := by kernel_rfl
theorem tyS173 : tySize Tryz.prog 173 = 1 := by kernel_rfl
theorem tyA173 : tyAgg Tryz.prog 173 = some false := by kernel_rfl
theorem tyS174 : tySize Tryz.prog 174 = 1 := by kernel_rfl
theorem tyA174 : tyAgg Tryz.prog 174 = some false := by kernel_rfl
theorem tyS175 : tySize Tryz.prog 175 = 1 := by kernel_rfl
theorem tyA175 : tyAgg Tryz.prog 175 = some false := by kernel_rfl
theorem tyS176 : tySize Tryz.prog 176 = 1 := by kernel_rfl
theorem tyA176 : tyAgg Tryz.prog 176 = some false := by kernel_rfl
theorem tyG176 : tyTag Tryz.prog 176 = none := by kernel_rfl
theorem tyQ176 : tyPtr Tryz.prog 176 = some 3 := by kernel_rfl
theorem tyI176 : tyInt Tryz.prog 176 = none := by kernel_rfl
theorem tyT176 : tyStr Tryz.prog 176 = false := by kernel_rfl
theorem tyU176 : tyUns Tryz.prog 176 = false := by kernel_rfl
theorem tyZ176 : tyZero Tryz.prog 176 = some [.d (.raw (.pointer none))] := by kernel_rfl
theorem tyS177 : tySize Tryz.prog 177 = 1 := by kernel_rfl
theorem tyA177 : tyAgg Tryz.prog 177 = some false := by kernel_rfl
theorem tyS178 : tySize Tryz.prog 178 = 1 := by kernel_rfl
theorem tyA178 : tyAgg Tryz.prog 178 = some false := by kernel_rfl
theorem tyS179 : tySize Tryz.prog 179 = 1 := by kernel_rfl
theorem tyA179 : tyAgg Tryz.prog 179 = some false := by kernel_rfl
theorem tyG179 : tyTag Tryz.prog 179 = none := by kernel_rfl
theorem tyQ179 : tyPtr Tryz.prog 179 = some 172 := by kernel_rfl
theorem tyI179 : tyInt Tryz.prog 179 = none := by kernel_rfl
theorem tyT179 : tyStr Tryz.prog 179 = false := by kernel_rfl
theorem tyU179 : tyUns Tryz.prog 179 = false := by kernel_rfl
theorem tyZ179 : tyZero Tryz.prog 179 = some [.d (.raw (.pointer none))] := by kernel_rfl
theorem tyS180 : tySize Tryz.prog 180 = 1 := by kernel_rfl
theorem tyA180 : tyAgg Tryz.prog 180 = some false := by kernel_rfl
theorem tyS181 : tySize Tryz.prog 181 = 4 := by kernel_rfl
theorem tyA181 : tyAgg Tryz.prog 181 = some true := by kernel_rfl
theorem tyG181 : tyTag Tryz.prog 181 = none := by kernel_rfl
theorem tyY181 : tyBytes Tryz.prog 181 = 40 := by kernel_rfl
theorem tyZ181 : tyZero Tryz.prog 181 = some [.d (.raw (.pointer none)), .d (.raw (.pointer none)), .d (.raw (.pointer none)), .d (.s ⟨#[]⟩)] := by kernel_rfl
theorem tyO181_0 : tyOff Tryz.prog 181 0 = some 0 := by kernel_rfl
theorem tyO181_1 : tyOff Tryz.prog 181 1 = some 1 := by kernel_rfl
theorem tyO181_2 : tyOff Tryz.prog 181 2 = some 2 := by kernel_rfl
theorem tyO181_3 : tyOff Tryz.prog 181 3 = some 3 := by kernel_rfl
theorem tyF181 : tyFlds Tryz.prog 181 = some [(0, 1), (1, 1), (2, 1), (3, 1)] := by kernel_rfl
theorem tyS182 : tySize Tryz.prog 182 = 4 := by kernel_rfl
theorem tyA182 : tyAgg Tryz.prog 182 = some true := by kernel_rfl
theorem tyG182 : tyTag Tryz.prog 182 = none := by kernel_rfl
theorem tyY182 : tyBytes Tryz.prog 182 = 40 := by kernel_rfl
theorem tyZ182 : tyZero Tryz.prog 182 = some [.d (.raw (.pointer none)), .d (.raw (.pointer none)), .d (.raw (.pointer none)), .d (.s ⟨#[]⟩)] := by kernel_rfl
theorem tyO182_0 : tyOff Tryz.prog 182 0 = some 0 := by kernel_rfl
theorem tyO182_1 : tyOff Tryz.prog 182 1 = some 1 := by kernel_rfl
theorem tyO182_2 : tyOff Tryz.prog 182 2 = some 2 := by kernel_rfl
theorem tyO182_3 : tyOff Tryz.prog 182 3 = some 3 := by kernel_rfl
theorem tyF182 : tyFlds Tryz.prog 182 = some [(0, 1), (1, 1), (2, 1), (3, 1)] := by kernel_rfl
theorem tyS183 : tySize Tryz.prog 183 = 0 := by kernel_rfl
theorem tyA183 : tyAgg Tryz.prog 183 = some true := by kernel_rfl
theorem tyG183 : tyTag Tryz.prog 183 = none := by kernel_rfl
theorem tyZ183 : tyZero Tryz.prog 183 = some [] := by kernel_rfl
theorem tyW183 : tyZeroT Tryz.prog 183 = some [] := by kernel_rfl
theorem tyS184 : tySize Tryz.prog 184 = 0 := by kernel_rfl
theorem tyA184 : tyAgg Tryz.prog 184 = some true := by kernel_rfl
theorem tyG184 : tyTag Tryz.prog 184 = none := by kernel_rfl
theorem tyY184 : tyBytes Tryz.prog 184 = 0 := by kernel_rfl
theorem tyZ184 : tyZero Tryz.prog 184 = some [] := by kernel_rfl
theorem tyW184 : tyZeroT Tryz.prog 184 = some [] := by kernel_rfl
theorem tyF184 : tyFlds Tryz.prog 184 = some [(0, 0)] := by kernel_rfl
theorem tyS185 : tySize Tryz.prog 185 = 0 := by kernel_rfl
theorem tyA185 : tyAgg Tryz.prog 185 = some true := by kernel_rfl
theorem tyG185 : tyTag Tryz.prog 185 = none := by kernel_rfl
theorem tyY185 : tyBytes Tryz.prog 185 = 0 := by kernel_rfl
theorem tyZ185 : tyZero Tryz.prog 185 = some [] := by kernel_rfl
theorem tyW185 : tyZeroT Tryz.prog 185 = some [] := by kernel_rfl
theorem tyF185 : tyFlds Tryz.prog 185 = some [(0, 0)] := by kernel_rfl
theorem tyS186 : tySize Tryz.prog 186 = 1 := by kernel_rfl
theorem tyA186 : tyAgg Tryz.prog 186 = some false := by kernel_rfl
theorem tyS187 : tySize Tryz.prog 187 = 1 := by kernel_rfl
theorem tyA187 : tyAgg Tryz.prog 187 = some false := by kernel_rfl
theorem tyG187 : tyTag Tryz.prog 187 = none := by kernel_rfl
theorem tyI187 : tyInt Tryz.prog 187 = some .u8 := by kernel_rfl
theorem tyY187 : tyBytes Tryz.prog 187 = 1 := by kernel_rfl
theorem tyZ187 : tyZero Tryz.prog 187 = some [.d (.i .u8 0)] := by kernel_rfl
theorem tyW187 : tyZeroT Tryz.prog 187 = some [.i .u8 0] := by kernel_rfl
theorem tyS188 : tySize Tryz.prog 188 = 1 := by kernel_rfl
theorem tyA188 : tyAgg Tryz.prog 188 = some false := by kernel_rfl
theorem tyG188 : tyTag Tryz.prog 188 = none := by kernel_rfl
theorem tyI188 : tyInt Tryz.prog 188 = some .u8 := by kernel_rfl
theorem tyY188 : tyBytes Tryz.prog 188 = 1 := by kernel_rfl
theorem tyZ188 : tyZero Tryz.prog 188 = some [.d (.i .u8 0)] := by kernel_rfl
theorem tyW188 : tyZeroT Tryz.prog 188 = some [.i .u8 0] := by kernel_rfl
theorem tyS189 : tySize Tryz.prog 189 = 1 := by kernel_rfl
theorem tyA189 : tyAgg Tryz.prog 189 = some false := by kernel_rfl
theorem tyS190 : tySize Tryz.prog 190 = 1 := by kernel_rfl
theorem tyA190 : tyAgg Tryz.prog 190 = some false := by kernel_rfl
theorem tyG190 : tyTag Tryz.prog 190 = none := by kernel_rfl
theorem tyI190 : tyInt Tryz.prog 190 = some .i32 := by kernel_rfl
theorem tyY190 : tyBytes Tryz.prog 190 = 4 := by kernel_rfl
theorem tyZ190 : tyZero Tryz.prog 190 = some [.d (.i .i32 0)] := by kernel_rfl
theorem tyW190 : tyZeroT Tryz.prog 190 = some [.i .i32 0] := by kernel_rfl
theorem tyS191 : tySize Tryz.prog 191 = 1 := by kernel_rfl
theorem tyA191 : tyAgg Tryz.prog 191 = some false := by kernel_rfl
theorem tyG191 : tyTag Tryz.prog 191 = none := by kernel_rfl
theorem tyI191 : tyInt Tryz.prog 191 = some .i32 := by kernel_rfl
theorem tyY191 : tyBytes Tryz.prog 191 = 4 := by kernel_rfl
theorem tyZ191 : tyZero Tryz.prog 191 = some [.d (.i .i32 0)] := by kernel_rfl
theorem tyW191 : tyZeroT Tryz.prog 191 = some [.i .i32 0] := by kernel_rfl
theorem tyS192 : tySize Tryz.prog 192 = 11 := by kernel_rfl
theorem tyA192 : tyAgg Tryz.prog 192 = some true := by kernel_rfl
theorem tyG192 : tyTag Tryz.prog 192 = none := by kernel_rfl
theorem tyY192 : tyBytes Tryz.prog 192 = 48 := by kernel_rfl
theorem tyZ192 : tyZero Tryz.prog 192 = some [.d (.i .u64 0), .d (.i .u64 0), .d (.i .u32 0), .d (.i .u8 0), .d (.i .u8 0), .d (.i .u8 0), .d (.i .u8 0), .unk, .d (.raw (.pointer none)), .d (.i .i32 0), .d (.i .i32 0)] := by kernel_rfl
theorem tyO192_0 : tyOff Tryz.prog 192 0 = some 0 := by kernel_rfl
theorem tyO192_1 : tyOff Tryz.prog 192 1 = some 1 := by kernel_rfl
theorem tyO192_2 : tyOff Tryz.prog 192 2 = some 2 := by kernel_rfl
theorem tyO192_3 : tyOff Tryz.prog 192 3 = some 3 := by kernel_rfl
theorem tyO192_4 : tyOff Tryz.prog 192 4 = some 4 := by kernel_rfl
theorem tyO192_5 : tyOff Tryz.prog 192 5 = some 5 := by kernel_rfl
theorem tyO192_6 : tyOff Tryz.prog 192 6 = some 6 := by kernel_rfl
theorem tyO192_7 : tyOff Tryz.prog 192 7 = some 7 := by kernel_rfl
theorem tyO192_8 : tyOff Tryz.prog 192 8 = some 8 := by kernel_rfl
theorem tyO192_9 : tyOff Tryz.prog 192 9 = some 9 := by kernel_rfl
theorem tyO192_10 : tyOff Tryz.prog 192 10 = some 10 := by kernel_rfl
theorem tyF192 : tyFlds Tryz.prog 192 = some [(0, 1), (1, 1), (2, 1), (3, 1), (4, 1), (5, 1), (6, 1), (7, 1), (8, 1), (9, 1), (10, 1)] := by kernel_rfl
theorem tyS193 : tySize Tryz.prog 193 = 11 := by kernel_rfl
theorem tyA193 : tyAgg Tryz.prog 193 = some true := by kernel_rfl
theorem tyG193 : tyTag Tryz.prog 193 = none := by kernel_rfl
theorem tyY193 : tyBytes Tryz.prog 193 = 48 := by kernel_rfl
theorem tyZ193 : tyZero Tryz.prog 193 = some [.d (.i .u64 0), .d (.i .u64 0), .d (.i .u32 0), .d (.i .u8 0), .d (.i .u8 0), .d (.i .u8 0), .d (.i .u8 0), .unk, .d (.raw (.pointer none)), .d (.i .i32 0), .d (.i .i32 0)] := by kernel_rfl
theorem tyO193_0 : tyOff Tryz.prog 193 0 = some 0 := by kernel_rfl
theorem tyO193_1 : tyOff Tryz.prog 193 1 = some 1 := by kernel_rfl
theorem tyO193_2 : tyOff Tryz.prog 193 2 = some 2 := by kernel_rfl
theorem tyO193_3 : tyOff Tryz.prog 193 3 = some 3 := by kernel_rfl
theorem tyO193_4 : tyOff Tryz.prog 193 4 = some 4 := by kernel_rfl
theorem tyO193_5 : tyOff Tryz.prog 193 5 = some 5 := by kernel_rfl
theorem tyO193_6 : tyOff Tryz.prog 193 6 = some 6 := by kernel_rfl
theorem tyO193_7 : tyOff Tryz.prog 193 7 = some 7 := by kernel_rfl
theorem tyO193_8 : tyOff Tryz.prog 193 8 = some 8 := by kernel_rfl
theorem tyO193_9 : tyOff Tryz.prog 193 9 = some 9 := by kernel_rfl
theorem tyO193_10 : tyOff Tryz.prog 193 10 = some 10 := by kernel_rfl
theorem tyF193 : tyFlds Tryz.prog 193 = some [(0, 1), (1, 1), (2, 1), (3, 1), (4, 1), (5, 1), (6, 1), (7, 1), (8, 1), (9, 1), (10, 1)] := by kernel_rfl
theorem tyS194 : tySize Tryz.prog 194 = 1 := by kernel_rfl
theorem tyA194 : tyAgg Tryz.prog 194 = some false := by kernel_rfl
attribute [push_cast] tyS1 tyA1 tyS2 tyA2 tyG2 tyI2 tyY2 tyZ2 tyW2 tyS3 tyA3 tyL3 tyG3 tyI3 tyY3 tyZ3 tyW3 tyS4 tyA4 tyG4 tyB4 tyY4 tyZ4 tyW4 tyS5 tyA5 tyL5 tyG5 tyI5 tyY5 tyZ5 tyW5 tyS6 tyA6 tyG6 tyI6 tyY6 tyZ6 tyW6 tyS7 tyA7 tyG7 tyY7 tyZ7 tyW7 tyO7_0 tyO7_1 tyO7_2 tyO7_3 tyF7 tyS8 tyA8 tyG8 tyY8 tyZ8 tyW8 tyO8_0 tyO8_1 tyO8_2 tyO8_3 tyF8 tyS9 tyA9 tyL9 tyG9 tyT9 tyI9 tyY9 tyZ9 tyW9 tyS10 tyA10 tyG10 tyT10 tyI10 tyY10 tyZ10 tyW10 tyS11 tyA11 tyG11 tyT11 tyI11 tyY11 tyZ11 tyW11 tyS12 tyA12 tyG12 tyI12 tyY12 tyZ12 tyW12 tyS13 tyA13 tyG13 tyY13 tyZ13 tyW13 tyO13_0 tyO13_1 tyF13 tyS14 tyA14 tyG14 tyY14 tyZ14 tyW14 tyO14_0 tyO14_1 tyF14 tyS15 tyA15 tyG15 tyQ15 tyI15 tyT15 tyU15 tyZ15 tyS16 tyA16 tyG16 tyQ16 tyI16 tyT16 tyU16 tyZ16 tyS17 tyA17 tyG17 tyQ17 tyI17 tyT17 tyU17 tyZ17 tyS18 tyA18 tyG18 tyY18 tyZ18 tyO18_0 tyF18 tyS19 tyA19 tyG19 tyY19 tyZ19 tyO19_0 tyF19 tyS21 tyA21 tyG21 tyI21 tyY21 tyZ21 tyW21 tyS22 tyA22 tyE22 tyI22 tyT22 tyL22 tyG22 tyY22 tyZ22 tyW22 tyS23 tyA23 tyE23 tyI23 tyT23 tyG23 tyY23 tyZ23 tyW23 tyS24 tyA24 tyG24 tyY24 tyZ24 tyW24 tyO24_0 tyO24_1 tyO24_2 tyO24_3 tyO24_4 tyF24 tyS25 tyA25 tyL25 tyG25 tyY25 tyZ25 tyW25 tyO25_0 tyO25_1 tyO25_2 tyO25_3 tyO25_4 tyF25 tyS27 tyA27 tyS28 tyA28 tyS29 tyA29 tyS30 tyA30 tyS31 tyA31 tyE31 tyI31 tyT31 tyG31 tyY31 tyZ31 tyW31 tyS33 tyA33 tyS34 tyA34 tyS35 tyA35 tyS36 tyA36 tyE36 tyI36 tyT36 tyG36 tyY36 tyZ36 tyW36 tyS37 tyA37 tyS39 tyA39 tyS40 tyA40 tyS41 tyA41 tyS43 tyA43 tyS44 tyA44 tyG44 tyI44 tyY44 tyZ44 tyW44 tyS45 tyA45 tyS46 tyA46 tyS47 tyA47 tyS49 tyA49 tyS51 tyA51 tyS52 tyA52 tyE52 tyI52 tyT52 tyG52 tyY52 tyZ52 tyW52 tyS53 tyA53 tyG53 tyY53 tyZ53 tyW53 tyO53_0 tyO53_1 tyF53 tyS54 tyA54 tyG54 tyY54 tyZ54 tyW54 tyO54_0 tyO54_1 tyF54 tyS56 tyA56 tyS57 tyA57 tyG57 tyY57 tyZ57 tyW57 tyO57_0 tyO57_1 tyF57 tyS58 tyA58 tyL58 tyG58 tyY58 tyZ58 tyW58 tyO58_0 tyO58_1 tyF58 tyS59 tyA59 tyG59 tyQ59 tyI59 tyT59 tyU59 tyZ59 tyS60 tyA60 tyG60 tyY60 tyZ60 tyW60 tyO60_0 tyO60_1 tyO60_2 tyF60 tyS61 tyA61 tyG61 tyY61 tyZ61 tyW61 tyO61_0 tyO61_1 tyO61_2 tyF61 tyP61 tyS62 tyA62 tyS63 tyA63 tyS64 tyA64 tyS65 tyA65 tyS66 tyA66 tyS67 tyA67 tyS68 tyA68 tyG68 tyQ68 tyI68 tyT68 tyU68 tyZ68 tyS69 tyA69 tyS70 tyA70 tyS71 tyA71 tyS72 tyA72 tyS73 tyA73 tyS74 tyA74 tyS75 tyA75 tyS76 tyA76 tyS77 tyA77 tyS78 tyA78 tyS79 tyA79 tyS80 tyA80 tyS81 tyA81 tyS82 tyA82 tyS83 tyA83 tyG83 tyY83 tyZ83 tyW83 tyO83_0 tyO83_1 tyF83 tyS84 tyA84 tyL84 tyG84 tyY84 tyZ84 tyW84 tyO84_0 tyO84_1 tyF84 tyS85 tyA85 tyE85 tyI85 tyT85 tyG85 tyY85 tyZ85 tyW85 tyS86 tyA86 tyG86 tyY86 tyZ86 tyW86 tyO86_0 tyO86_1 tyO86_2 tyF86 tyS87 tyA87 tyL87 tyG87 tyY87 tyZ87 tyW87 tyO87_0 tyO87_1 tyO87_2 tyF87 tyP87 tyS89 tyA89 tyS90 tyA90 tyE90 tyI90 tyT90 tyL90 tyG90 tyY90 tyZ90 tyW90 tyS91 tyA91 tyG91 tyY91 tyZ91 tyW91 tyO91_0 tyO91_1 tyF91 tyS92 tyA92 tyL92 tyG92 tyY92 tyZ92 tyW92 tyO92_0 tyO92_1 tyF92 tyS93 tyA93 tyS94 tyA94 tyS95 tyA95 tyS96 tyA96 tyS97 tyA97 tyG97 tyY97 tyZ97 tyW97 tyO97_0 tyO97_1 tyO97_2 tyF97 tyS98 tyA98 tyG98 tyY98 tyZ98 tyW98 tyO98_0 tyO98_1 tyO98_2 tyF98 tyS99 tyA99 tyS100 tyA100 tyS101 tyA101 tyE101 tyI101 tyT101 tyG101 tyY101 tyZ101 tyW101 tyS102 tyA102 tyS103 tyA103 tyS104 tyA104 tyG104 tyQ104 tyI104 tyT104 tyU104 tyZ104 tyS105 tyA105 tyG105 tyY105 tyZ105 tyO105_0 tyO105_1 tyF105 tyS106 tyA106 tyG106 tyV106 tyY106 tyZ106 tyO106_0 tyO106_1 tyF106 tyS110 tyA110 tyS111 tyA111 tyS112 tyA112 tyS113 tyA113 tyS114 tyA114 tyS115 tyA115 tyS116 tyA116 tyS117 tyA117 tyS118 tyA118 tyS119 tyA119 tyS120 tyA120 tyS121 tyA121 tyS122 tyA122 tyS123 tyA123 tyS124 tyA124 tyG124 tyI124 tyY124 tyZ124 tyW124 tyS125 tyA125 tyS126 tyA126 tyG126 tyI126 tyY126 tyZ126 tyW126 tyS127 tyA127 tyS128 tyA128 tyS129 tyA129 tyS130 tyA130 tyS131 tyA131 tyS132 tyA132 tyS133 tyA133 tyS134 tyA134 tyG134 tyQ134 tyI134 tyT134 tyU134 tyZ134 tyS135 tyA135 tyS136 tyA136 tyS137 tyA137 tyS138 tyA138 tyS139 tyA139 tyS140 tyA140 tyS141 tyA141 tyS142 tyA142 tyE142 tyI142 tyT142 tyG142 tyY142 tyZ142 tyW142 tyS143 tyA143 tyS144 tyA144 tyS145 tyA145 tyS146 tyA146 tyE146 tyI146 tyT146 tyG146 tyY146 tyZ146 tyW146 tyS147 tyA147 tyU147 tyI147 tyT147 tyQ147 tyS148 tyA148 tyS149 tyA149 tyS150 tyA150 tyS151 tyA151 tyS152 tyA152 tyS153 tyA153 tyS154 tyA154 tyS155 tyA155 tyS156 tyA156 tyS157 tyA157 tyS158 tyA158 tyS159 tyA159 tyG159 tyI159 tyY159 tyZ159 tyW159 tyS161 tyA161 tyS162 tyA162 tyS163 tyA163 tyS164 tyA164 tyS166 tyA166 tyS167 tyA167 tyS168 tyA168 tyS169 tyA169 tyS170 tyA170 tyS171 tyA171 tyS172 tyA172 tyG172 tyI172 tyY172 tyZ172 tyW172 tyS173 tyA173 tyS174 tyA174 tyS175 tyA175 tyS176 tyA176 tyG176 tyQ176 tyI176 tyT176 tyU176 tyZ176 tyS177 tyA177 tyS178 tyA178 tyS179 tyA179 tyG179 tyQ179 tyI179 tyT179 tyU179 tyZ179 tyS180 tyA180 tyS181 tyA181 tyG181 tyY181 tyZ181 tyO181_0 tyO181_1 tyO181_2 tyO181_3 tyF181 tyS182 tyA182 tyG182 tyY182 tyZ182 tyO182_0 tyO182_1 tyO182_2 tyO182_3 tyF182 tyS183 tyA183 tyG183 tyZ183 tyW183 tyS184 tyA184 tyG184 tyY184 tyZ184 tyW184 tyF184 tyS185 tyA185 tyG185 tyY185 tyZ185 tyW185 tyF185 tyS186 tyA186 tyS187 tyA187 tyG187 tyI187 tyY187 tyZ187 tyW187 tyS188 tyA188 tyG188 tyI188 tyY188 tyZ188 tyW188 tyS189 tyA189 tyS190 tyA190 tyG190 tyI190 tyY190 tyZ190 tyW190 tyS191 tyA191 tyG191 tyI191 tyY191 tyZ191 tyW191 tyS192 tyA192 tyG192 tyY192 tyZ192 tyO192_0 tyO192_1 tyO192_2 tyO192_3 tyO192_4 tyO192_5 tyO192_6 tyO192_7 tyO192_8 tyO192_9 tyO192_10 tyF192 tyS193 tyA193 tyG193 tyY193 tyZ193 tyO193_0 tyO193_1 tyO193_2 tyO193_3 tyO193_4 tyO193_5 tyO193_6 tyO193_7 tyO193_8 tyO193_9 tyO193_10 tyF193 tyS194 tyA194
end Go.Av
end
section
set_option maxRecDepth 100000
namespace Go.Av
open Go.Proofs
def orcs : List (Nat × (Objs → List TV → Option (TV × Objs))) := [(90, sortedO 116)]
def exts : List (Nat × (List TV → Option TV)) := [(126, noescE), (160, cmpE)]
def h6_16 : LHint := ⟨[0,2,6,16,17,18],[0,2,6,17],[2,3],[(6,4,3)]⟩
def h6_7 : LHint := ⟨[0,2,6,9,10,11],[0,2,6,10],[2,3],[(6,2,1)]⟩
def h7_9 : LHint := ⟨[0,2,4,5,33,34],[0,2,4,5],[2,3],[(5,4,3)]⟩
def h7_4 : LHint := ⟨[0,2,4,5,18,19],[0,2,4,5],[2,3],[(5,2,1)]⟩
def h11_3 : LHint := ⟨[0,4,5],[4,5],[2,3],[(4,0,5)]⟩
def h12_5 : LHint := ⟨[4,5],[],[2,3],[(4,0,5)]⟩
def h13_4 : LHint := ⟨[0,1,5],[],[4],[]⟩
def h14_2 : LHint := ⟨[0,1,5],[1],[4],[]⟩
def h15_2 : LHint := ⟨[0,1,5],[1],[4],[]⟩
def h18_11 : LHint := ⟨[3,46,47,48],[3],[2],[]⟩
def h18_5 : LHint := ⟨[1,3,24,25,26],[1,3],[2],[]⟩
def h22_4 : LHint := ⟨[0,1,5],[],[4],[]⟩
def h23_10 : LHint := ⟨[1,3,5],[3],[2],[]⟩
def h23_5 : LHint := ⟨[1,3,4],[1,3],[2],[]⟩
def h25_3 : LHint := ⟨[3,7,8,9],[3],[2],[]⟩
def h26_3 : LHint := ⟨[0,3,4],[3],[2],[]⟩
def h28_11 : LHint := ⟨[1,3],[1],[2],[]⟩
def h30_5 : LHint := ⟨[0,1,2,8,9],[1,2,8],[6,7],[]⟩
def h32_10 : LHint := ⟨[0,2,4,5,8,9],[0,2,4,5,8],[2,3],[(8,0,3)]⟩
def h32_5 : LHint := ⟨[0,2,4,5],[0,2,4],[2,3],[(4,1,2)]⟩
def h35_11 : LHint := ⟨[0,2,4,5,7,48,49],[0,2,4,5,7],[2,3],[(7,0,3)]⟩
def h35_5 : LHint := ⟨[0,2,4,5],[2,4,5],[2,3],[(5,1,2)]⟩
def h36_4 : LHint := ⟨[0,1,5],[],[4],[]⟩
def h37_4 : LHint := ⟨[0,1,5],[],[4],[]⟩
def h38_2 : LHint := ⟨[0,1,5],[1],[4],[]⟩
def h39_2 : LHint := ⟨[0,1,5],[1],[4],[]⟩
def h40_2 : LHint := ⟨[0,1,5],[1],[4],[]⟩
def h41_2 : LHint := ⟨[0,1,5],[1],[4],[]⟩
def h43_4 : LHint := ⟨[0,3],[3],[2],[]⟩
def h44_3 : LHint := ⟨[0,3,4],[0,3],[2],[]⟩
def h45_4 : LHint := ⟨[0,3,4,5],[0,3],[2],[]⟩
def h47_3 : LHint := ⟨[0,1,5,10,11],[5],[4],[]⟩
def h49_10 : LHint := ⟨[3,16,17,18,28,29,30],[3,16,17,18],[2],[]⟩
def h49_6 : LHint := ⟨[3,16,17,18],[3],[2],[]⟩
def h51_3 : LHint := ⟨[0,1,5,6],[5],[4],[]⟩
def h53_9 : LHint := ⟨[1,3,4,5],[1,3,4],[2],[(3,0,1)]⟩
def h53_5 : LHint := ⟨[1,3,4],[3],[2],[(3,0,1)]⟩
def h54_4 : LHint := ⟨[0,1,5],[],[4],[]⟩
def h55_4 : LHint := ⟨[0,1,5],[],[4],[]⟩
def h59_2 : LHint := ⟨[0,5,6,7],[],[2],[]⟩
def h60_3 : LHint := ⟨[3,6,7,8],[3],[2],[(3,0,1)]⟩
def h63_4 : LHint := ⟨[1,16,17,18],[],[2],[]⟩
def h64_8 : LHint := ⟨[0,3,4,5],[0,3],[2],[]⟩
def h64_2 : LHint := ⟨[0,3],[0],[2],[]⟩
def h65_2 : LHint := ⟨[0,3],[0],[2],[]⟩
def h66_2 : LHint := ⟨[1,3],[1],[2],[]⟩
def h68_7 : LHint := ⟨[0,1,4,6,8,9],[1,4,6,8],[4,5],[]⟩
def h69_3 : LHint := ⟨[3,7,8,9],[3],[2],[]⟩
def h72_2 : LHint := ⟨[0,1,5],[1],[4],[]⟩
def h73_2 : LHint := ⟨[0,1,5],[1],[4],[]⟩
def h77_8 : LHint := ⟨[0,1,5,6,7,8],[0,1,5,6,7],[4],[]⟩
def h77_3 : LHint := ⟨[0,1,5,6],[0,5],[4],[(5,0,3)]⟩
def h78_4 : LHint := ⟨[0,3,4,5],[3],[2],[(3,0,3)]⟩
def h83_9 : LHint := ⟨[1,3,4,5,6],[1,3],[2],[(3,0,1)]⟩
def h85_4 : LHint := ⟨[2,3,5],[],[4],[]⟩
def h96_2 : LHint := ⟨[0,1,5],[],[4],[]⟩
def h97_2 : LHint := ⟨[0,1,5],[0,1],[4],[]⟩
def h98_2 : LHint := ⟨[0,1,5],[0,1],[4],[]⟩
def h102_2 : LHint := ⟨[0,1,5],[1],[4],[]⟩
def h103_2 : LHint := ⟨[0,1,5],[1],[4],[]⟩
def h107_4 : LHint := ⟨[0,2,6,7,8,9],[6,7],[6],[(7,1,2)]⟩
def h108_2 : LHint := ⟨[1,2,3,6,7,8],[1,2,3,6,7],[6],[]⟩
def h111_4 : LHint := ⟨[0,1,5],[],[4],[]⟩
def h116_1 : LHint := ⟨[0,5,6,7],[],[],[]⟩
def h117_2 : LHint := ⟨[0,1,7,8],[],[4],[]⟩
def h119_2 : LHint := ⟨[0,1,2,11,12,13],[0,1],[6],[]⟩
def h122_4 : LHint := ⟨[0,1,5],[],[4],[]⟩
def h123_7 : LHint := ⟨[0,1,2,7,8,9,10],[0,1,2,7,8,9],[6],[(9,0,3)]⟩
def h123_3 : LHint := ⟨[0,1,2,7,8],[7],[6],[(7,0,1)]⟩
def h127_2 : LHint := ⟨[0,1,7,8],[],[4],[]⟩
def h129_2 : LHint := ⟨[0,1,2,3,8,9],[],[],[]⟩
def h133_3 : LHint := ⟨[3,6,7,8],[3],[2],[]⟩
def h138_4 : LHint := ⟨[0,1,2,6,7],[0,1,2,6],[],[]⟩
def h138_1 : LHint := ⟨[0,1,2,6],[],[],[]⟩
def h139_8 : LHint := ⟨[0,6,7,10],[],[],[]⟩
def h139_4 : LHint := ⟨[0,6,7,8,9],[0,6,7,8],[],[]⟩
def h140_5 : LHint := ⟨[0,1,6,7,8,9],[],[],[]⟩
def h142_2 : LHint := ⟨[0,6,7],[],[],[]⟩
def h143_20 : LHint := ⟨[0,1,2,7,8,10],[0,1,2,7,8],[6],[]⟩
def h143_14 : LHint := ⟨[0,1,2,7,8,9],[0,1,2,7,8],[6],[]⟩
def h143_5 : LHint := ⟨[0,1,2,7,8],[0,1,2,7,8],[6],[]⟩
def h143_3 : LHint := ⟨[0,1,2,7,8],[],[6],[]⟩
def h145_5 : LHint := ⟨[0,1,9,10],[0,1,9,10],[8],[]⟩
def h145_3 : LHint := ⟨[0,1,9,10],[9],[8],[]⟩
def h146_15 : LHint := ⟨[0,1,10,11],[0,1,10,11],[8,9],[]⟩
def h146_13 : LHint := ⟨[0,1,10,11],[0,1,11],[8,9],[]⟩
def h146_5 : LHint := ⟨[0,1,10,11],[0,1,10,11],[8,9],[]⟩
def h146_3 : LHint := ⟨[0,1,10,11],[0,1,10,11],[8,9],[]⟩
def h149_2 : LHint := ⟨[0,1,7,8],[],[4],[]⟩
def h152_4 : LHint := ⟨[0,1,5],[],[4],[]⟩
def h154_1 : LHint := ⟨[0,2,3,8],[],[],[]⟩
def p5_12 : Plan := ⟨anx 0 [[],[0],[],[],[],[],[5],[],[],[],[],[10],[10],[],[],[],[],[16],[],[],[],[],[21],[],[],[],[],[],[],[],[],[29,30],[],[],[],[],[],[36],[],[],[],[],[41],[],[],[],[],[],[46,47],[],[],[],[],[],[],[53,54],[],[],[]], [0,1], .alt 2 [] [3, 4, 5, 6, 7, 8, 9, 10, 11] (.alt 12 [10] [13, 14, 15, 16, 17, 18, 19, 20, 21, 22] (.alt 23 [] [24, 25, 26, 27, 28, 29, 31] (.alt 30 [31] [32, 33, 34, 35, 36, 37, 38, 39, 40, 41, 42, 43, 44, 45, 46, 48] (.alt 47 [48] [] (.alt 49 [] [50, 51, 52, 53, 55] (.alt 54 [55] [] (.alt 56 [] [57, 58] .done .done) .done) .done) .done) .done) .done) .done) .done⟩
def p5_14 : Plan := ⟨anx 0 [[],[0],[],[0,1,2],[],[],[],[6],[7],[]], [0,1,2,3], .alt 4 [] [5, 6, 7, 8, 9] .done .done⟩
def p5_24 : Plan := ⟨anx 0 [[],[0],[0,1],[0,1,2],[0,1],[0,1],[0,1,2,3,4,5],[0,1,2,3,4,5],[0,1,2,3,4,5],[0,1,2,3,4,5],[0,1,2,3,4,5],[0,1],[],[]], [0,1,2,3,4,5,6], .alt 7 [0, 1, 2, 3, 4, 5] [8, 9, 10, 11, 12] (.alt 13 [] [] .done .done) .done⟩
def p7_5 : Plan := ⟨anx 0 [[],[],[0,1],[0,1],[0,1],[],[],[]], [0,1,2], .alt 3 [0, 1] [] (.alt 4 [0, 1] [] (.alt 5 [] [6] (.alt 7 [] [] .done .done) .done) .done) .done⟩
def p13_6 : Plan := ⟨anx 0 [[],[0],[],[],[0,1,2,3],[0,1,2,3,4],[0,1,2,3],[0,1,2,3],[],[]], [0,1,2,3,4,5,6,7], .alt 8 [] [9] .done .done⟩
def p15_7 : Plan := ⟨anx 0 [[],[0],[],[],[],[0,1,2,3,4],[0,1,2,3,4],[]], [0,1,2,3,4,5], .alt 6 [0, 1, 2, 3, 4] [7] .done .done⟩
def p15_13 : Plan := ⟨anx 0 [[],[0],[],[],[],[0,1,2,3,4],[0,1,2,3,4],[]], [0,1,2,3,4,5], .alt 6 [0, 1, 2, 3, 4] [7] .done .done⟩
def p18_3 : Plan := ⟨anx 0 [[],[],[],[0,1,2],[0,1,2],[],[],[0,1,2,3,4,5,6],[0,1,2,3,4,5,6],[0,1,2,3,4,5,6],[6],[],[]], [0,1,3,4,7,8,9], .alt 2 [3, 4, 7, 8, 9] [] (.alt 5 [7, 8, 9] [6] (.alt 10 [6] [11, 12] .done .done) .done) .done⟩
def p18_9 : Plan := ⟨anx 0 [[],[0],[0],[0],[0,1,2,3],[0,1,2,3],[0,1,2,3],[0],[0],[],[]], [0,1,2,4,5,6], .alt 3 [0, 4, 5, 6] [] (.alt 7 [0] [8, 9] (.alt 10 [] [] .done .done) .done) .done⟩
def p18_13 : Plan := ⟨anx 0 [[],[0],[0],[0],[0,1,2,3],[0,1,2,3],[0],[0],[0],[],[]], [0,1,2,4,5], .alt 3 [0, 4, 5] [] (.alt 6 [0] [] (.alt 7 [0] [8, 9] (.alt 10 [] [] .done .done) .done) .done) .done⟩
def p22_6 : Plan := ⟨anx 0 [[],[0],[],[],[0,1,2,3],[0,1,2,3,4],[0,1,2,3],[0,1,2,3],[],[]], [0,1,2,3,4,5,6,7], .alt 8 [] [9] .done .done⟩
def p23_3 : Plan := ⟨anx 0 [[],[],[],[0,1,2],[0,1,2],[],[],[0,1,2,3,4,5,6],[0,1,2,3,4,5,6],[0,1,2,3,4,5,6],[6],[],[]], [0,1,3,4,7,8,9], .alt 2 [3, 4, 7, 8, 9] [] (.alt 5 [7, 8, 9] [6] (.alt 10 [6] [11, 12] .done .done) .done) .done⟩
def p23_8 : Plan := ⟨anx 0 [[],[0],[0],[0],[],[0,1,2,3,4],[0,1,2,3,4],[0,1,2,3,4],[0,4],[],[]], [0,1,2,5,6,7], .alt 3 [0, 5, 6, 7] [4] (.alt 8 [0, 4] [9] (.alt 10 [] [] .done .done) .done) .done⟩
def p23_12 : Plan := ⟨anx 0 [[],[0],[0],[0,1,2],[0],[0],[0],[0],[],[0,1,2,3,4,5,6,7,8],[0,1,2,3,4,5,6,7,8],[0,1,2,3,4,5,6,7,8,9,10],[0,1,2,3,4,5,6,7,8],[0,1,2,3,4,5,6,7,8],[0,1,2,3,4,5,6,7,8],[0,8],[0,8],[],[]], [0,1,2,3,4,5,6,9,10,11,12,13,14], .alt 7 [0, 9, 10, 11, 12, 13, 14] [8] (.alt 15 [0, 8] [] (.alt 16 [0, 8] [17] (.alt 18 [] [] .done .done) .done) .done) .done⟩
def p28_13 : Plan := ⟨anx 0 [[],[],[0,1],[],[],[],[],[],[],[],[],[9,10],[],[],[],[],[],[],[],[],[],[],[],[],[22,23],[],[],[],[22,23,24,25,26,27],[22,23,24,25,26,27],[22,23,24,25,26,27,28,29],[22,23,24,25,26,27,28,29],[22,23,24,25,26,27],[22,23,24,25,26,27],[22,23,24,25,26,27],[],[],[]], [0,1,2,3,4,5], .alt 6 [] [7, 8, 9, 10, 11, 12, 13, 14] (.alt 15 [] [16, 17, 18, 19, 20, 21, 22, 23, 24, 25, 26, 27, 28, 29, 30, 31, 32, 33, 34, 35, 36, 37] .done .done) .done⟩
def p35_12 : Plan := ⟨anx 0 [[],[],[0,1],[0,1],[0,1],[],[],[]], [0,1,2], .alt 3 [0, 1] [] (.alt 4 [0, 1] [] (.alt 5 [] [6] (.alt 7 [] [] .done .done) .done) .done) .done⟩
def p36_6 : Plan := ⟨[[],[],[0,1],[0,1,2],[],[],[4,5],[4,5,6],[0,1,2,3,4,5,6,7]], [0,1,2,3,4,5,6,7,8], .done⟩
def p37_6 : Plan := ⟨anx 0 [[],[0],[],[],[0,1,2,3],[0,1,2,3,4],[0,1,2,3],[0,1,2,3],[],[]], [0,1,2,3,4,5,6,7], .alt 8 [] [9] .done .done⟩
def p40_4 : Plan := ⟨[[],[],[0,1],[0,1,2],[],[4],[0,1,2,3,4,5]], [0,1,2,3,4], .alt 5 [0, 1, 2, 3] [6] .done .done⟩
def p41_4 : Plan := ⟨anx 0 [[],[0],[],[],[],[0,1,2,3,4],[0,1,2,3,4],[]], [0,1,2,3,4,5], .alt 6 [0, 1, 2, 3, 4] [7] .done .done⟩
def p42_1 : Plan := ⟨anx 0 [[],[],[],[],[],[],[5],[5],[5],[5],[5],[5,6,7,8,9,10],[5,6,7,8,9,10],[5,6,7,8,9,10],[5,6,7,8,9,10],[5],[],[]], [0,1,2,3,4,5,6,7,8,9,10,11,12,13,14,15,16,17], .done⟩
def p42_5 : Plan := ⟨[[],[0],[0,1],[0,1,2],[],[4],[4,5],[4,5,6],[],[4,5,6,7,8],[],[10],[10,11],[10,11,12],[0,1,2,3,4,5,6,7,8,9,10,11,12,13],[0,1,2,3,4,5,6,7,8,9,10,11,12,13,14]], [0,1,2,3,4,5,6,7,8,9,10,11,12,13,14,15], .done⟩
def p50_6 : Plan := ⟨[[],[],[0,1],[],[],[3,4],[0,1,2,3,4,5],[],[],[7,8],[0,1,2,3,4,5,6,7,8,9],[0,1,2,3,4,5,6,7,8,9,10]], [0,1,2,3,7,8,9], .alt 4 [0, 1, 2, 3, 7, 8, 9] [] (.alt 5 [0, 1, 2, 7, 8, 9] [6, 10, 11] .done .done) .done⟩
def p54_6 : Plan := ⟨[[],[],[0,1],[0,1,2],[],[],[4,5],[4,5,6],[0,1,2,3,4,5,6,7]], [0,1,2,3,4,5,6,7,8], .done⟩
def p55_6 : Plan := ⟨anx 0 [[],[0],[],[],[],[0,1,2,3,4],[0,1,2,3,4,5],[0,1,2,3,4],[0,1,2,3,4],[0,1,2,3,4],[],[],[],[12],[],[],[],[12,13,14,15,16],[12,13,14,15,16,17],[12,13,14,15,16],[12,13,14,15,16],[12,13,14,15,16],[],[],[]], [0,1,2,3,4,5,6,7,8,9,10,11,12,13,14,15,16,17,18,19,20,21], .alt 22 [] [23, 24] .done .done⟩
def p63_6 : Plan := ⟨anx 0 [[],[],[0,1],[0,1],[],[],[],[],[],[],[],[],[],[],[],[],[],[],[],[],[],[],[],[21,22],[21,22],[],[],[],[21,22,23,24,25,26,27],[21,22,23,24,25,26,27],[],[],[],[]], [0,1,2,3], .alt 4 [] [5, 6, 7, 8, 9, 10, 11, 12, 13] (.alt 14 [] [15, 16, 17, 18, 19, 20, 21, 22, 23, 24, 25, 26, 27, 28, 29] (.alt 30 [] [31, 32, 33] .done .done) .done) .done⟩
def p64_5 : Plan := ⟨anx 0 [[],[],[],[],[],[],[],[],[],[],[8,9],[8,9,10],[8,9,10],[8,9],[8,9],[8,9],[],[],[],[],[],[],[],[],[],[]], [0,1], .alt 2 [] [3, 4, 5, 6, 7, 8, 9, 10, 11, 12, 13, 14, 15, 16, 17, 18, 19, 20, 21, 22] (.alt 23 [] [24, 25] .done .done) .done⟩
def p64_10 : Plan := ⟨anx 0 [[],[],[0,1],[],[],[],[],[],[],[],[8,9],[],[8,9,10,11],[8,9,10,11],[8,9,10,11,12,13],[8,9,10,11],[8,9,10,11],[],[]], [0,1,2,3,4], .alt 5 [] [6, 7, 8, 9, 10, 11, 12, 13, 14, 15, 16] (.alt 17 [] [18] .done .done) .done⟩
def p66_5 : Plan := ⟨anx 0 [[],[],[0,1],[0,1],[],[],[],[],[],[],[],[],[],[],[],[],[],[],[],[],[],[],[],[21,22],[21,22],[],[],[],[21,22,23,24,25,26,27],[21,22,23,24,25,26,27],[],[],[],[]], [0,1,2,3], .alt 4 [] [5, 6, 7, 8, 9, 10, 11, 12, 13] (.alt 14 [] [15, 16, 17, 18, 19, 20, 21, 22, 23, 24, 25, 26, 27, 28, 29] (.alt 30 [] [31, 32, 33] .done .done) .done) .done⟩
def p77_13 : Plan := ⟨anx 0 [[],[0],[0,1],[0],[0],[0],[0,1,2,3,4,5],[0],[0],[],[]], [0,1,2,3,4,5,6,7], .alt 8 [0] [] (.alt 9 [] [] (.alt 10 [] [] .done .done) .done) .done⟩
def p78_6 : Plan := ⟨anx 0 [[],[0],[0,1],[0],[0],[0,1,2,3,4],[0,1,2,3,4,5],[0,1,2,3,4,5],[0,1,2,3,4],[0],[0],[],[]], [0,1,2,3,4,5,6,7], .alt 8 [0, 1, 2, 3, 4] [9] (.alt 10 [0] [] (.alt 11 [] [] (.alt 12 [] [] .done .done) .done) .done) .done⟩
def p80_10 : Plan := ⟨anx 0 [[],[0],[0],[0],[0],[],[0,1,2,3,4,5],[0,1,2,3,4,5],[],[]], [0,1,2,3,6,7], .alt 4 [0, 6, 7] [5, 8, 9] .done .done⟩
def p82_1 : Plan := ⟨anx 0 [[],[],[],[],[],[0,1,2,3,4],[0,1,2,3,4],[0,1,2,3,4],[0,1,2,3,4],[0,1,2,3,4],[],[]], [0,1,2,3,4,5,6,7,8,9], .alt 10 [] [11] .done .done⟩
def p85_6 : Plan := ⟨anx 0 [[],[],[0,1],[],[],[],[0,1,2,3,4,5],[0,1,2,3,4,5],[0,1,2,3,4,5,6,7],[0,1,2,3,4,5],[0,1,2,3,4,5],[0,1,2,3,4,5],[],[],[],[],[14,15],[],[],[],[14,15,16,17,18,19],[14,15,16,17,18,19],[14,15,16,17,18,19,20,21],[14,15,16,17,18,19],[14,15,16,17,18,19],[14,15,16,17,18,19],[],[],[]], [0,1,2,3,4,5,6,7,8,9,10,11,12,13,14,15,16,17,18,19,20,21,22,23,24,25], .alt 26 [] [27, 28] .done .done⟩
def p98_4 : Plan := ⟨anx 0 [[],[0],[],[],[0,1,2,3],[0,1,2,3,4],[0,1,2,3],[0,1,2,3],[],[]], [0,1,2,3,4,5,6,7], .alt 8 [] [9] .done .done⟩
def p103_10 : Plan := ⟨anx 0 [[],[0],[],[],[],[0,1,2,3,4],[0,1,2,3,4],[]], [0,1,2,3,4,5], .alt 6 [0, 1, 2, 3, 4] [7] .done .done⟩
def p104_2 : Plan := ⟨anx 0 [[],[],[],[],[],[0,1,2,3,4],[0,1,2,3,4],[0,1,2,3,4],[0,1,2,3,4],[0,1,2,3,4],[],[],[]], [0,1,2,3,4,5,6,7,8,9,10,11,12], .done⟩
def p104_3 : Plan := ⟨anx 0 [[],[],[],[],[0,1,2,3],[0,1,2,3],[0,1,2,3],[0,1,2,3],[0,1,2,3],[]], [0,1,2,3,4,5,6,7,8,9], .done⟩
def p104_4 : Plan := ⟨anx 0 [[],[0],[0],[0],[0],[0,1,2,3,4],[0,1,2,3,4],[0,1,2,3,4],[0,1,2,3,4],[0],[0],[0],[],[],[]], [0,1,2,3,4,5,6,7,8,9,10,11,12,13], .alt 14 [] [] .done .done⟩
def p107_9 : Plan := ⟨anx 0 [[],[0],[0,1],[0],[0],[0,1,2,3,4],[],[]], [0,1,2,3,4,5], .alt 6 [] [] (.alt 7 [] [] .done .done) .done⟩
def p108_1 : Plan := ⟨[[],[0],[0,1],[],[0,1,2,3]], [0,1,2,3,4], .done⟩
def p108_12 : Plan := ⟨anx 0 [[],[0],[0],[0,1,2],[0],[],[0,1,2,3,4,5],[0,1,2,3,4,5],[0,1,2,3,4,5,6,7],[0,1,2,3,4,5,6,7],[0,1,2,3,4,5],[],[],[]], [1,2,3,6,7,8,9], .alt 0 [1, 2, 3, 6, 7, 8, 9] [] (.alt 4 [6, 7, 8, 9] [] (.alt 5 [6, 7, 8, 9] [] (.alt 10 [1, 2, 3] [] (.alt 11 [] [12] (.alt 13 [] [] .done .done) .done) .done) (.alt 10 [1, 2, 3] [] (.alt 5 [6, 7, 8, 9] [] (.alt 11 [] [12] (.alt 13 [] [] .done .done) .done) .done) .done)) (.alt 10 [1, 2, 3] [] (.alt 4 [6, 7, 8, 9] [] (.alt 5 [6, 7, 8, 9] [] (.alt 11 [] [12] (.alt 13 [] [] .done .done) .done) .done) .done) .done)) (.alt 4 [6, 7, 8, 9] [] (.alt 0 [1, 2, 3, 6, 7, 8, 9] [] (.alt 5 [6, 7, 8, 9] [] (.alt 10 [1, 2, 3] [] (.alt 11 [] [12] (.alt 13 [] [] .done .done) .done) .done) (.alt 10 [1, 2, 3] [] (.alt 5 [6, 7, 8, 9] [] (.alt 11 [] [12] (.alt 13 [] [] .done .done) .done) .done) .done)) (.alt 10 [1, 2, 3] [] (.alt 0 [1, 2, 3, 6, 7, 8, 9] [] (.alt 5 [6, 7, 8, 9] [] (.alt 11 [] [12] (.alt 13 [] [] .done .done) .done) .done) .done) .done)) (.alt 10 [1, 2, 3] [] (.alt 0 [1, 2, 3, 6, 7, 8, 9] [] (.alt 4 [6, 7, 8, 9] [] (.alt 5 [6, 7, 8, 9] [] (.alt 11 [] [12] (.alt 13 [] [] .done .done) .done) .done) .done) (.alt 4 [6, 7, 8, 9] [] (.alt 0 [1, 2, 3, 6, 7, 8, 9] [] (.alt 5 [6, 7, 8, 9] [] (.alt 11 [] [12] (.alt 13 [] [] .done .done) .done) .done) .done) .done)) .done))⟩
def p108_15 : Plan := ⟨anx 0 [[],[0],[0],[0,1,2],[0],[],[0,1,2,3,4,5],[],[0,1,2,3,4,5,6,7],[],[],[],[0,1,2,3,4,5,6,7,8,9,10,11],[0,1,2,3,4,5,6,7,8,9,10,11],[0,1,2,3,4,5,6,7,8,9,10,11,12,13],[0,1,2,3,4,5,6,7,8,9,10,11],[],[],[]], [1,2,3,6,8,12,13,14], .alt 0 [1, 2, 3, 6, 8, 12, 13, 14] [] (.alt 4 [6, 8, 12, 13, 14] [] (.alt 5 [6, 8, 12, 13, 14] [] (.alt 7 [8, 12, 13, 14] [9] (.alt 10 [12, 13, 14] [] (.alt 11 [12, 13, 14] [] (.alt 15 [1, 2, 3, 6, 8, 9] [] (.alt 16 [] [17] (.alt 18 [] [] .done .done) .done) .done) (.alt 15 [1, 2, 3, 6, 8, 9] [] (.alt 11 [12, 13, 14] [] (.alt 16 [] [17] (.alt 18 [] [] .done .done) .done) .done) .done)) (.alt 15 [1, 2, 3, 6, 8, 9] [] (.alt 10 [12, 13, 14] [] (.alt 11 [12, 13, 14] [] (.alt 16 [] [17] (.alt 18 [] [] .done .done) .done) .done) .done) .done)) (.alt 15 [1, 2, 3, 6, 8] [] (.alt 7 [8, 12, 13, 14] [9] (.alt 10 [12, 13, 14] [] (.alt 11 [12, 13, 14] [] (.alt 16 [] [17] (.alt 18 [] [] .done .done) .done) .done) .done) .done) .done)) (.alt 15 [1, 2, 3, 6, 8] [] (.alt 5 [6, 8, 12, 13, 14] [] (.alt 7 [8, 12, 13, 14] [9] (.alt 10 [12, 13, 14] [] (.alt 11 [12, 13, 14] [] (.alt 16 [] [17] (.alt 18 [] [] .done .done) .done) .done) .done) .done) .done) .done)) (.alt 15 [1, 2, 3, 6, 8] [] (.alt 4 [6, 8, 12, 13, 14] [] (.alt 5 [6, 8, 12, 13, 14] [] (.alt 7 [8, 12, 13, 14] [9] (.alt 10 [12, 13, 14] [] (.alt 11 [12, 13, 14] [] (.alt 16 [] [17] (.alt 18 [] [] .done .done) .done) .done) .done) .done) .done) .done) .done)) (.alt 4 [6, 8, 12, 13, 14] [] (.alt 0 [1, 2, 3, 6, 8, 12, 13, 14] [] (.alt 5 [6, 8, 12, 13, 14] [] (.alt 7 [8, 12, 13, 14] [9] (.alt 10 [12, 13, 14] [] (.alt 11 [12, 13, 14] [] (.alt 15 [1, 2, 3, 6, 8, 9] [] (.alt 16 [] [17] (.alt 18 [] [] .done .done) .done) .done) (.alt 15 [1, 2, 3, 6, 8, 9] [] (.alt 11 [12, 13, 14] [] (.alt 16 [] [17] (.alt 18 [] [] .done .done) .done) .done) .done)) (.alt 15 [1, 2, 3, 6, 8, 9] [] (.alt 10 [12, 13, 14] [] (.alt 11 [12, 13, 14] [] (.alt 16 [] [17] (.alt 18 [] [] .done .done) .done) .done) .done) .done)) (.alt 15 [1, 2, 3, 6, 8] [] (.alt 7 [8, 12, 13, 14] [9] (.alt 10 [12, 13, 14] [] (.alt 11 [12, 13, 14] [] (.alt 16 [] [17] (.alt 18 [] [] .done .done) .done) .done) .done) .done) .done)) (.alt 15 [1, 2, 3, 6, 8] [] (.alt 5 [6, 8, 12, 13, 14] [] (.alt 7 [8, 12, 13, 14] [9] (.alt 10 [12, 13, 14] [] (.alt 11 [12, 13, 14] [] (.alt 16 [] [17] (.alt 18 [] [] .done .done) .done) .done) .done) .done) .done) .done)) (.alt 15 [1, 2, 3, 6, 8] [] (.alt 0 [1, 2, 3, 6, 8, 12, 13, 14] [] (.alt 5 [6, 8, 12, 13, 14] [] (.alt 7 [8, 12, 13, 14] [9] (.alt 10 [12, 13, 14] [] (.alt 11 [12, 13, 14] [] (.alt 16 [] [17] (.alt 18 [] [] .done .done) .done) .done) .done) .done) .done) .done) .done)) (.alt 15 [1, 2, 3, 6, 8] [] (.alt 0 [1, 2, 3, 6, 8, 12, 13, 14] [] (.alt 4 [6, 8, 12, 13, 14] [] (.alt 5 [6, 8, 12, 13, 14] [] (.alt 7 [8, 12, 13, 14] [9] (.alt 10 [12, 13, 14] [] (.alt 11 [12, 13, 14] [] (.alt 16 [] [17] (.alt 18 [] [] .done .done) .done) .done) .done) .done) .done) .done) (.alt 4 [6, 8, 12, 13, 14] [] (.alt 0 [1, 2, 3, 6, 8, 12, 13, 14] [] (.alt 5 [6, 8, 12, 13, 14] [] (.alt 7 [8, 12, 13, 14] [9] (.alt 10 [12, 13, 14] [] (.alt 11 [12, 13, 14] [] (.alt 16 [] [17] (.alt 18 [] [] .done .done) .done) .done) .done) .done) .done) .done) .done)) .done))⟩
def p109_6 : Plan := ⟨anx 0 [[],[],[0,1],[0,1,2],[0,1,2],[0,1],[0,1],[0,1],[0,1,2,3,4,5,6,7],[0,1,6,7],[0,1],[0,1],[],[],[]], [0,1,2,3,4,8], .alt 5 [0, 1, 8] [6, 7] (.alt 9 [0, 1, 6, 7] [10] (.alt 11 [0, 1] [] (.alt 12 [] [13] (.alt 14 [] [] .done .done) .done) .done) .done) .done⟩
def p109_9 : Plan := ⟨anx 0 [[],[],[0,1],[0,1,2],[0,1],[],[],[]], [0,1,2], .alt 3 [0, 1, 2] [] (.alt 4 [0, 1] [5, 6] (.alt 7 [] [] .done .done) .done) .done⟩
def p111_6 : Plan := ⟨[[],[],[0,1],[0,1,2],[],[],[4,5],[4,5,6],[0,1,2,3,4,5,6,7]], [0,1,2,3,4,5,6,7,8], .done⟩
def p120_1 : Plan := ⟨anx 0 [[],[],[0,1],[0,1],[],[0,1,2,3,4],[0,1,2,3,4],[0,1,2,3,4,5,6],[0,1,2,3,4,5,6],[],[0,1,2,3,4,5,6,7,8,9],[0,1,2,3,4,5,6,7,8,9],[0,1,2,3,4,5,6,7,8,9,10,11],[0,1,2,3,4,5,6,7,8,9,10,11],[],[],[],[]], [0,1,2,3,5,6,7,8,10,11,12,13], .alt 4 [5, 6, 7, 8, 10, 11, 12, 13] [] (.alt 9 [10, 11, 12, 13] [] (.alt 14 [] [] (.alt 15 [] [] (.alt 16 [] [17] .done .done) .done) .done) .done) .done⟩
def p122_6 : Plan := ⟨anx 0 [[],[0],[],[],[0,1,2,3],[0,1,2,3,4],[0,1,2,3],[0,1,2,3],[],[]], [0,1,2,3,4,5,6,7], .alt 8 [] [9] .done .done⟩
def p129_17 : Plan := ⟨anx 0 [[],[],[],[],[3],[3],[],[],[3,4,5,6,7],[3,4,5,6,7,8],[3,4,5,6,7],[3,4,5,6,7],[],[],[]], [0,1,2,3,4,5,6,7,8,9,10,11], .alt 12 [] [13, 14] .done .done⟩
def p138_4 : Plan := ⟨anx 0 [[],[0],[],[],[],[4],[],[],[4,5,6,7],[4,5,6,7,8],[4,5,6,7,8],[4,5,6,7],[4,5,6,7],[],[]], [0,1,2,3,4,5,6,7,8,9,10,11,12], .alt 13 [] [14] .done .done⟩
def p138_6 : Plan := ⟨[[],[],[],[],[3],[],[],[6],[5,6,7],[5,6,7,8],[],[],[10,11],[10,11,12],[0,1,5,6,7,8,9,10,11,12,13],[0,1,5,6,7,8,9,10,11,12,13,14],[0,1,2,3,4,5,6,7,8,9,10,11,12,13,14,15],[0,1,2,3,4,5,6,7,8,9,10,11,12,13,14,15,16]], [0,1,2,3,4,5,6,7,8,9,10,11,12,13,14], .alt 15 [2, 3, 4] [16] (.alt 17 [] [] .done .done) .done⟩
def p139_10 : Plan := ⟨[[],[],[],[],[],[3,4],[],[],[],[7,8],[6,7,8,9],[6,7,8,9,10],[],[],[12,13],[12,13,14],[0,1,6,7,8,9,10,11,12,13,14,15],[0,1,6,7,8,9,10,11,12,13,14,15,16],[0,1,2,3,4,5,6,7,8,9,10,11,12,13,14,15,16,17],[0,1,2,3,4,5,6,7,8,9,10,11,12,13,14,15,16,17,18]], [0,1,2,3,4,5,6,7,8,9,10,11,12,13,14,15,16], .alt 17 [2, 3, 4, 5] [18] (.alt 19 [] [] .done .done) .done⟩
def p140_10 : Plan := ⟨[[],[],[],[],[],[3,4],[],[],[],[7,8],[6,7,8,9],[6,7,8,9,10],[],[],[12,13],[12,13,14],[0,1,6,7,8,9,10,11,12,13,14,15],[0,1,6,7,8,9,10,11,12,13,14,15,16],[0,1,2,3,4,5,6,7,8,9,10,11,12,13,14,15,16,17],[0,1,2,3,4,5,6,7,8,9,10,11,12,13,14,15,16,17,18]], [0,1,2,3,4,5,6,7,8,9,10,11,12,13,14,15,16], .alt 17 [2, 3, 4, 5] [18] (.alt 19 [] [] .done .done) .done⟩
def p142_3 : Plan := ⟨anx 0 [[],[0],[0,1],[0,1,2],[0,1,2,3],[0,1,2,3,4],[0,1,2,3],[0,1,2,3],[0,1,2,3,4,5,6,7],[0,1,2,3,4,5,6,7,8],[0,1,2,3,4,5,6,7],[0,1,2,3,4,5,6,7],[2,3],[2,3],[],[]], [0,1,2,3,4,5,6,7,8,9,10,11,12], .alt 13 [2, 3] [14] (.alt 15 [] [] .done .done) .done⟩
def p143_5 : Plan := ⟨anx 0 [[],[0],[],[],[],[4],[],[],[4,5,6,7],[4,5,6,7,8],[4,5,6,7,8],[4,5,6,7],[4,5,6,7],[],[],[]], [0,1,2,3,4,5,6,7,8,9,10,11,12], .alt 13 [] [14, 15] .done .done⟩
def p143_11 : Plan := ⟨[[],[],[],[],[3],[],[],[6],[5,6,7],[5,6,7,8],[],[],[10,11],[10,11,12],[0,1,5,6,7,8,9,10,11,12,13],[0,1,5,6,7,8,9,10,11,12,13,14],[0,1,2,3,4,5,6,7,8,9,10,11,12,13,14,15],[0,1,2,3,4,5,6,7,8,9,10,11,12,13,14,15,16]], [0,1,2,3,4,5,6,7,8,9,10,11,12,13,14], .alt 15 [2, 3, 4] [16] (.alt 17 [] [] .done .done) .done⟩
def p143_16 : Plan := ⟨anx 0 [[],[0],[],[],[0,1,2,3],[0,1,2,3,4],[0,1,2,3,4],[0,1,2,3],[0,1,2,3],[],[]], [0,1,2,3,4,5,6,7,8], .alt 9 [] [10] .done .done⟩
def p143_17 : Plan := ⟨[[],[],[],[],[3],[],[],[6],[5,6,7],[5,6,7,8],[],[],[10,11],[10,11,12],[0,1,5,6,7,8,9,10,11,12,13],[0,1,5,6,7,8,9,10,11,12,13,14],[0,1,2,3,4,5,6,7,8,9,10,11,12,13,14,15],[0,1,2,3,4,5,6,7,8,9,10,11,12,13,14,15,16]], [0,1,2,3,4,5,6,7,8,9,10,11,12,13,14], .alt 15 [2, 3, 4] [16] (.alt 17 [] [] .done .done) .done⟩
def p143_22 : Plan := ⟨anx 0 [[],[0],[],[],[0,1,2,3],[0,1,2,3,4],[0,1,2,3,4],[0,1,2,3],[0,1,2,3],[],[]], [0,1,2,3,4,5,6,7,8], .alt 9 [] [10] .done .done⟩
def p143_23 : Plan := ⟨[[],[],[],[],[3],[],[],[6],[5,6,7],[5,6,7,8],[],[],[10,11],[10,11,12],[0,1,5,6,7,8,9,10,11,12,13],[0,1,5,6,7,8,9,10,11,12,13,14],[0,1,2,3,4,5,6,7,8,9,10,11,12,13,14,15],[0,1,2,3,4,5,6,7,8,9,10,11,12,13,14,15,16]], [0,1,2,3,4,5,6,7,8,9,10,11,12,13,14], .alt 15 [2, 3, 4] [16] (.alt 17 [] [] .done .done) .done⟩
def p145_1 : Plan := ⟨anx 0 [[],[0],[0,1],[0,1,2],[0,1,2,3],[0,1,2,3,4],[0,1,2,3],[0,1,2,3],[0,1,2,3,4,5,6,7],[0,1,2,3,4,5,6,7,8],[0,1,2,3,4,5,6,7],[0,1,2,3,4,5,6,7],[2,3],[2,3],[],[]], [0,1,2,3,4,5,6,7,8,9,10,11,12], .alt 13 [2, 3] [14] (.alt 15 [] [] .done .done) .done⟩
def p145_3 : Plan := ⟨anx 0 [[],[0],[],[],[],[4],[],[],[4,5,6,7],[4,5,6,7,8],[4,5,6,7],[4,5,6,7],[],[],[]], [0,1,2,3,4,5,6,7,8,9,10,11], .alt 12 [] [13, 14] .done .done⟩
def p145_5 : Plan := ⟨anx 0 [[],[0],[],[],[],[4],[],[],[4,5,6,7],[4,5,6,7,8],[4,5,6,7],[4,5,6,7],[],[]], [0,1,2,3,4,5,6,7,8,9,10,11], .alt 12 [] [13] .done .done⟩
def p145_8 : Plan := ⟨anx 0 [[],[0],[0,1],[0,1,2],[0,1,2,3],[0,1,2,3,4],[0,1,2,3],[0,1,2,3],[0,1,2,3,4,5,6,7],[0,1,2,3,4,5,6,7,8],[0,1,2,3,4,5,6,7],[0,1,2,3,4,5,6,7],[2,3],[2,3],[],[]], [0,1,2,3,4,5,6,7,8,9,10,11,12], .alt 13 [2, 3] [14] (.alt 15 [] [] .done .done) .done⟩
def p146_1 : Plan := ⟨anx 0 [[],[0],[0,1],[0,1,2],[0,1,2,3],[0,1,2,3,4],[0,1,2,3],[0,1,2,3],[0,1,2,3,4,5,6,7],[0,1,2,3,4,5,6,7,8],[0,1,2,3,4,5,6,7],[0,1,2,3,4,5,6,7],[2,3],[2,3],[],[]], [0,1,2,3,4,5,6,7,8,9,10,11,12], .alt 13 [2, 3] [14] (.alt 15 [] [] .done .done) .done⟩
def p146_3 : Plan := ⟨anx 0 [[],[0],[],[],[],[4],[],[],[4,5,6,7],[4,5,6,7,8],[4,5,6,7],[4,5,6,7],[],[]], [0,1,2,3,4,5,6,7,8,9,10,11], .alt 12 [] [13] .done .done⟩
def p146_5 : Plan := ⟨anx 0 [[],[0],[],[],[],[4],[],[],[4,5,6,7],[4,5,6,7,8],[4,5,6,7],[4,5,6,7],[],[],[]], [0,1,2,3,4,5,6,7,8,9,10,11], .alt 12 [] [13, 14] .done .done⟩
def p146_8 : Plan := ⟨anx 0 [[],[0],[0,1],[0,1,2],[0,1,2,3],[0,1,2,3,4],[0,1,2,3],[0,1,2,3],[0,1,2,3,4,5,6,7],[0,1,2,3,4,5,6,7,8],[0,1,2,3,4,5,6,7],[0,1,2,3,4,5,6,7],[2,3],[2,3],[],[]], [0,1,2,3,4,5,6,7,8,9,10,11,12], .alt 13 [2, 3] [14] (.alt 15 [] [] .done .done) .done⟩
def p146_10 : Plan := ⟨anx 0 [[],[0],[0,1],[0,1,2],[0,1,2,3],[0,1,2,3,4],[0,1,2,3],[0,1,2,3],[0,1,2,3,4,5,6,7],[0,1,2,3,4,5,6,7,8],[0,1,2,3,4,5,6,7],[0,1,2,3,4,5,6,7],[2,3],[2,3],[],[]], [0,1,2,3,4,5,6,7,8,9,10,11,12], .alt 13 [2, 3] [14] (.alt 15 [] [] .done .done) .done⟩
def p146_13 : Plan := ⟨anx 0 [[],[0],[],[],[],[4],[],[],[4,5,6,7],[4,5,6,7,8],[4,5,6,7],[4,5,6,7],[],[]], [0,1,2,3,4,5,6,7,8,9,10,11], .alt 12 [] [13] .done .done⟩
def p146_15 : Plan := ⟨anx 0 [[],[0],[],[],[],[4],[],[],[4,5,6,7],[4,5,6,7,8],[4,5,6,7],[4,5,6,7],[],[],[]], [0,1,2,3,4,5,6,7,8,9,10,11], .alt 12 [] [13, 14] .done .done⟩
def p146_18 : Plan := ⟨anx 0 [[],[0],[0,1],[0,1,2],[0,1,2,3],[0,1,2,3,4],[0,1,2,3],[0,1,2,3],[0,1,2,3,4,5,6,7],[0,1,2,3,4,5,6,7,8],[0,1,2,3,4,5,6,7],[0,1,2,3,4,5,6,7],[2,3],[2,3],[],[]], [0,1,2,3,4,5,6,7,8,9,10,11,12], .alt 13 [2, 3] [14] (.alt 15 [] [] .done .done) .done⟩
def p146_21 : Plan := ⟨anx 0 [[],[0],[0,1],[0,1,2],[0,1,2,3],[0,1,2,3,4],[0,1,2,3],[0,1,2,3],[0,1,2,3,4,5,6,7],[0,1,2,3,4,5,6,7,8],[0,1,2,3,4,5,6,7],[0,1,2,3,4,5,6,7],[2,3],[2,3],[],[]], [0,1,2,3,4,5,6,7,8,9,10,11,12], .alt 13 [2, 3] [14] (.alt 15 [] [] .done .done) .done⟩
def p152_6 : Plan := ⟨anx 0 [[],[0],[],[],[0,1,2,3],[0,1,2,3,4],[0,1,2,3],[0,1,2,3],[],[]], [0,1,2,3,4,5,6,7], .alt 8 [] [9] .done .done⟩
def p154_3 : Plan := ⟨anx 0 [[],[],[0,1],[],[],[],[5],[5,6],[5],[],[],[5,6,7,8,9,10],[5,6,7,8,9,10,11],[5,6,7,8,9,10,11,12],[5,6,7,8,9,10,11],[5,6,7,8,9,10,11],[5,6,7,8,9,10],[5,6,7,8,9,10],[],[]], [0,1,2,3,4,5,6,7,8,9,10,11,12,13,14,15,16,17], .alt 18 [] [19] .done .done⟩
def p154_5 : Plan := ⟨anx 0 [[],[0],[0,1],[0],[],[],[0,1,2,3,4,5],[0,1,2,3,4,5,6],[0,1,2,3,4,5,6,7],[0,1,2,3,4,5,6],[0,1,2,3,4,5],[0,1,2,3,4,5],[],[]], [0,1,2,3,4,5,6,7,8,9,10,11], .alt 12 [] [13] .done .done⟩
def p154_6 : Plan := ⟨[[],[],[],[1,2],[],[],[],[5,6],[],[],[],[9,10],[8,9,10,11],[8,9,10,11,12],[],[],[],[15,16],[14,15,16,17],[14,15,16,17,18],[0,1,2,3,8,9,10,11,12,13,14,15,16,17,18,19],[0,1,2,3,8,9,10,11,12,13,14,15,16,17,18,19,20],[0,1,2,3,4,5,6,7,8,9,10,11,12,13,14,15,16,17,18,19,20,21],[0,1,2,3,4,5,6,7,8,9,10,11,12,13,14,15,16,17,18,19,20,21,22]], [0,1,2,3,4,5,6,7,8,9,10,11,12,13,14,15,16,17,18,19,20], .alt 21 [4, 5, 6, 7] [22] (.alt 23 [] [] .done .done) .done⟩
def p156_1 : Plan := ⟨anx 0 [[],[],[],[0,1,2],[0,1,2],[0,1,2],[0,1,2],[],[],[]], [0,1,2,3,4,5,6,7,8], .alt 9 [] [] .done .done⟩
def p156_2 : Plan := ⟨anx 0 [[],[],[],[0,1,2],[0,1,2],[0,1,2],[0,1,2],[],[],[]], [0,1,2,3,4,5,6,7,8], .alt 9 [] [] .done .done⟩
def p156_3 : Plan := ⟨anx 0 [[],[],[],[0,1,2],[0,1,2],[0,1,2],[0,1,2],[],[],[]], [0,1,2,3,4,5,6,7,8], .alt 9 [] [] .done .done⟩
def p162_1 : Plan := ⟨[[],[],[0,1],[0,1,2],[],[],[4,5],[4,5,6],[0,1,2,3,4,5,6,7]], [0,1,2,3,4,5,6,7], .alt 8 [] [] .done .done⟩
def hints : FuncId → Nat → LHint
  | 6, 16 => h6_16
  | 6, 7 => h6_7
  | 7, 9 => h7_9
  | 7, 4 => h7_4
  | 11, 3 => h11_3
  | 12, 5 => h12_5
  | 13, 4 => h13_4
  | 14, 2 => h14_2
  | 15, 2 => h15_2
  | 18, 11 => h18_11
  | 18, 5 => h18_5
  | 22, 4 => h22_4
  | 23, 10 => h23_10
  | 23, 5 => h23_5
  | 25, 3 => h25_3
  | 26, 3 => h26_3
  | 28, 11 => h28_11
  | 30, 5 => h30_5
  | 32, 10 => h32_10
  | 32, 5 => h32_5
  | 35, 11 => h35_11
  | 35, 5 => h35_5
  | 36, 4 => h36_4
  | 37, 4 => h37_4
  | 38, 2 => h38_2
  | 39, 2 => h39_2
  | 40, 2 => h40_2
  | 41, 2 => h41_2
  | 43, 4 => h43_4
  | 44, 3 => h44_3
  | 45, 4 => h45_4
  | 47, 3 => h47_3
  | 49, 10 => h49_10
  | 49, 6 => h49_6
  | 51, 3 => h51_3
  | 53, 9 => h53_9
  | 53, 5 => h53_5
  | 54, 4 => h54_4
  | 55, 4 => h55_4
  | 59, 2 => h59_2
  | 60, 3 => h60_3
  | 63, 4 => h63_4
  | 64, 8 => h64_8
  | 64, 2 => h64_2
  | 65, 2 => h65_2
  | 66, 2 => h66_2
  | 68, 7 => h68_7
  | 69, 3 => h69_3
  | 72, 2 => h72_2
  | 73, 2 => h73_2
  | 77, 8 => h77_8
  | 77, 3 => h77_3
  | 78, 4 => h78_4
  | 83, 9 => h83_9
  | 85, 4 => h85_4
  | 96, 2 => h96_2
  | 97, 2 => h97_2
  | 98, 2 => h98_2
  | 102, 2 => h102_2
  | 103, 2 => h103_2
  | 107, 4 => h107_4
  | 108, 2 => h108_2
  | 111, 4 => h111_4
  | 116, 1 => h116_1
  | 117, 2 => h117_2
  | 119, 2 => h119_2
  | 122, 4 => h122_4
  | 123, 7 => h123_7
  | 123, 3 => h123_3
  | 127, 2 => h127_2
  | 129, 2 => h129_2
  | 133, 3 => h133_3
  | 138, 4 => h138_4
  | 138, 1 => h138_1
  | 139, 8 => h139_8
  | 139, 4 => h139_4
  | 140, 5 => h140_5
  | 142, 2 => h142_2
  | 143, 20 => h143_20
  | 143, 14 => h143_14
  | 143, 5 => h143_5
  | 143, 3 => h143_3
  | 145, 5 => h145_5
  | 145, 3 => h145_3
  | 146, 15 => h146_15
  | 146, 13 => h146_13
  | 146, 5 => h146_5
  | 146, 3 => h146_3
  | 149, 2 => h149_2
  | 152, 4 => h152_4
  | 154, 1 => h154_1
  | _, _ => ⟨[], [], [], []⟩
def plans : FuncId → Nat → Plan
  | 5, 12 => p5_12
  | 5, 14 => p5_14
  | 5, 24 => p5_24
  | 7, 5 => p7_5
  | 13, 6 => p13_6
  | 15, 7 => p15_7
  | 15, 13 => p15_13
  | 18, 3 => p18_3
  | 18, 9 => p18_9
  | 18, 13 => p18_13
  | 22, 6 => p22_6
  | 23, 3 => p23_3
  | 23, 8 => p23_8
  | 23, 12 => p23_12
  | 28, 13 => p28_13
  | 35, 12 => p35_12
  | 36, 6 => p36_6
  | 37, 6 => p37_6
  | 40, 4 => p40_4
  | 41, 4 => p41_4
  | 42, 1 => p42_1
  | 42, 5 => p42_5
  | 50, 6 => p50_6
  | 54, 6 => p54_6
  | 55, 6 => p55_6
  | 63, 6 => p63_6
  | 64, 5 => p64_5
  | 64, 10 => p64_10
  | 66, 5 => p66_5
  | 77, 13 => p77_13
  | 78, 6 => p78_6
  | 80, 10 => p80_10
  | 82, 1 => p82_1
  | 85, 6 => p85_6
  | 98, 4 => p98_4
  | 103, 10 => p103_10
  | 104, 2 => p104_2
  | 104, 3 => p104_3
  | 104, 4 => p104_4
  | 107, 9 => p107_9
  | 108, 1 => p108_1
  | 108, 12 => p108_12
  | 108, 15 => p108_15
  | 109, 6 => p109_6
  | 109, 9 => p109_9
  | 111, 6 => p111_6
  | 120, 1 => p120_1
  | 122, 6 => p122_6
  | 129, 17 => p129_17
  | 138, 4 => p138_4
  | 138, 6 => p138_6
  | 139, 10 => p139_10
  | 140, 10 => p140_10
  | 142, 3 => p142_3
  | 143, 5 => p143_5
  | 143, 11 => p143_11
  | 143, 16 => p143_16
  | 143, 17 => p143_17
  | 143, 22 => p143_22
  | 143, 23 => p143_23
  | 145, 1 => p145_1
  | 145, 3 => p145_3
  | 145, 5 => p145_5
  | 145, 8 => p145_8
  | 146, 1 => p146_1
  | 146, 3 => p146_3
  | 146, 5 => p146_5
  | 146, 8 => p146_8
  | 146, 10 => p146_10
  | 146, 13 => p146_13
  | 146, 15 => p146_15
  | 146, 18 => p146_18
  | 146, 21 => p146_21
  | 152, 6 => p152_6
  | 154, 3 => p154_3
  | 154, 5 => p154_5
  | 154, 6 => p154_6
  | 156, 1 => p156_1
  | 156, 2 => p156_2
  | 156, 3 => p156_3
  | 162, 1 => p162_1
  | _, _ => ⟨[], [], .done⟩
noncomputable def cfg : Cfg := { P := Tryz.prog, O := fun f => lk f orcs, E := fun f => lk f exts, H := hints, D := plans, X := fun f => hasKey f [107, 108, 123, 178], Y := fun f => hasKey f [108, 115, 129, 138, 139, 140, 141, 142, 143, 145, 146, 154, 157, 158, 162], U := fun f => hasKey f [79], Z := fun f => hasKey f [7, 8, 10, 12, 13, 15, 35, 37, 41, 101] }
@[push_cast] theorem cfg_E (f : FuncId) : cfg.E f = lk f exts := rfl
attribute [push_cast] exts
theorem ev_Sorted (l : List ByteArray) (hl : l.length ≤ 1099511627776) : evF cfg 90 [(0, .box [.d (.sl .any (l.map fun s => [.s s]))])] [.clo 116 [.ptr 0 0]] = some (.own 40, [(40, .arr .any 1 ((sStr l).map fun s => [.s s]))]) := by
  rw [evF_def, stF]
  exact sortedO_eq 116 l hl
theorem cfg_hO [Known] : ∀ g h ins args r, cfg.O g = some h → h ins args = some r → m1 cfg g ins args r := by
  intro g h ins args r ho hr
  have hm := lk_mem (show lk g orcs = some h from ho)
  simp only [orcs, List.mem_cons, List.not_mem_nil, or_false, Prod.mk.injEq] at hm
  obtain ⟨rfl, rfl⟩ := hm
  · exact m1_of rfl (sortedO_ac ins args r hr)
theorem cfg_hE [Known] : ∀ g h, cfg.E g = some h → ExtOk cfg.P g h := by
  intro g h ho
  have hm := lk_mem (show lk g exts = some h from ho)
  simp only [exts, List.mem_cons, List.not_mem_nil, or_false, Prod.mk.injEq] at hm
  rcases hm with ⟨rfl, rfl⟩ | ⟨rfl, rfl⟩
  · exact noesc_ext (fn := Tryz.f126) Tryz.func126 (by decide) (by decide) (by decide) (by rfl)
  · exact cmp_ext (fn := Tryz.f160) Tryz.func160 (by decide) (by decide) (by decide) (by rfl)
@[push_cast] theorem cfg_P : cfg.P = Tryz.prog := rfl
@[push_cast] theorem cfg_X (f : FuncId) : cfg.X f = hasKey f [107, 108, 123, 178] := rfl
@[push_cast] theorem cfg_Y (f : FuncId) : cfg.Y f = hasKey f [108, 115, 129, 138, 139, 140, 141, 142, 143, 145, 146, 154, 157, 158, 162] := rfl
@[push_cast] theorem cfg_Z (f : FuncId) : cfg.Z f = hasKey f [7, 8, 10, 12, 13, 15, 35, 37, 41, 101] := rfl
theorem cH6_16 : cfg.H 6 16 = h6_16 := rfl
theorem cH6_7 : cfg.H 6 7 = h6_7 := rfl
theorem cH7_9 : cfg.H 7 9 = h7_9 := rfl
theorem cH7_4 : cfg.H 7 4 = h7_4 := rfl
theorem cH11_3 : cfg.H 11 3 = h11_3 := rfl
theorem cH12_5 : cfg.H 12 5 = h12_5 := rfl
theorem cH13_4 : cfg.H 13 4 = h13_4 := rfl
theorem cH14_2 : cfg.H 14 2 = h14_2 := rfl
theorem cH15_2 : cfg.H 15 2 = h15_2 := rfl
theorem cH18_11 : cfg.H 18 11 = h18_11 := rfl
theorem cH18_5 : cfg.H 18 5 = h18_5 := rfl
theorem cH22_4 : cfg.H 22 4 = h22_4 := rfl
theorem cH23_10 : cfg.H 23 10 = h23_10 := rfl
theorem cH23_5 : cfg.H 23 5 = h23_5 := rfl
theorem cH25_3 : cfg.H 25 3 = h25_3 := rfl
theorem cH26_3 : cfg.H 26 3 = h26_3 := rfl
theorem cH28_11 : cfg.H 28 11 = h28_11 := rfl
theorem cH30_5 : cfg.H 30 5 = h30_5 := rfl
theorem cH32_10 : cfg.H 32 10 = h32_10 := rfl
theorem cH32_5 : cfg.H 32 5 = h32_5 := rfl
theorem cH35_11 : cfg.H 35 11 = h35_11 := rfl
theorem cH35_5 : cfg.H 35 5 = h35_5 := rfl
theorem cH36_4 : cfg.H 36 4 = h36_4 := rfl
theorem cH37_4 : cfg.H 37 4 = h37_4 := rfl
theorem cH38_2 : cfg.H 38 2 = h38_2 := rfl
theorem cH39_2 : cfg.H 39 2 = h39_2 := rfl
theorem cH40_2 : cfg.H 40 2 = h40_2 := rfl
theorem cH41_2 : cfg.H 41 2 = h41_2 := rfl
theorem cH43_4 : cfg.H 43 4 = h43_4 := rfl
theorem cH44_3 : cfg.H 44 3 = h44_3 := rfl
theorem cH45_4 : cfg.H 45 4 = h45_4 := rfl
theorem cH47_3 : cfg.H 47 3 = h47_3 := rfl
theorem cH49_10 : cfg.H 49 10 = h49_10 := rfl
theorem cH49_6 : cfg.H 49 6 = h49_6 := rfl
theorem cH51_3 : cfg.H 51 3 = h51_3 := rfl
theorem cH53_9 : cfg.H 53 9 = h53_9 := rfl
theorem cH53_5 : cfg.H 53 5 = h53_5 := rfl
theorem cH54_4 : cfg.H 54 4 = h54_4 := rfl
theorem cH55_4 : cfg.H 55 4 = h55_4 := rfl
theorem cH59_2 : cfg.H 59 2 = h59_2 := rfl
theorem cH60_3 : cfg.H 60 3 = h60_3 := rfl
theorem cH63_4 : cfg.H 63 4 = h63_4 := rfl
theorem cH64_8 : cfg.H 64 8 = h64_8 := rfl
theorem cH64_2 : cfg.H 64 2 = h64_2 := rfl
theorem cH65_2 : cfg.H 65 2 = h65_2 := rfl
theorem cH66_2 : cfg.H 66 2 = h66_2 := rfl
theorem cH68_7 : cfg.H 68 7 = h68_7 := rfl
theorem cH69_3 : cfg.H 69 3 = h69_3 := rfl
theorem cH72_2 : cfg.H 72 2 = h72_2 := rfl
theorem cH73_2 : cfg.H 73 2 = h73_2 := rfl
theorem cH77_8 : cfg.H 77 8 = h77_8 := rfl
theorem cH77_3 : cfg.H 77 3 = h77_3 := rfl
theorem cH78_4 : cfg.H 78 4 = h78_4 := rfl
theorem cH83_9 : cfg.H 83 9 = h83_9 := rfl
theorem cH85_4 : cfg.H 85 4 = h85_4 := rfl
theorem cH96_2 : cfg.H 96 2 = h96_2 := rfl
theorem cH97_2 : cfg.H 97 2 = h97_2 := rfl
theorem cH98_2 : cfg.H 98 2 = h98_2 := rfl
theorem cH102_2 : cfg.H 102 2 = h102_2 := rfl
theorem cH103_2 : cfg.H 103 2 = h103_2 := rfl
theorem cH107_4 : cfg.H 107 4 = h107_4 := rfl
theorem cH108_2 : cfg.H 108 2 = h108_2 := rfl
theorem cH111_4 : cfg.H 111 4 = h111_4 := rfl
theorem cH116_1 : cfg.H 116 1 = h116_1 := rfl
theorem cH117_2 : cfg.H 117 2 = h117_2 := rfl
theorem cH119_2 : cfg.H 119 2 = h119_2 := rfl
theorem cH122_4 : cfg.H 122 4 = h122_4 := rfl
theorem cH123_7 : cfg.H 123 7 = h123_7 := rfl
theorem cH123_3 : cfg.H 123 3 = h123_3 := rfl
theorem cH127_2 : cfg.H 127 2 = h127_2 := rfl
theorem cH129_2 : cfg.H 129 2 = h129_2 := rfl
theorem cH133_3 : cfg.H 133 3 = h133_3 := rfl
theorem cH138_4 : cfg.H 138 4 = h138_4 := rfl
theorem cH138_1 : cfg.H 138 1 = h138_1 := rfl
theorem cH139_8 : cfg.H 139 8 = h139_8 := rfl
theorem cH139_4 : cfg.H 139 4 = h139_4 := rfl
theorem cH140_5 : cfg.H 140 5 = h140_5 := rfl
theorem cH142_2 : cfg.H 142 2 = h142_2 := rfl
theorem cH143_20 : cfg.H 143 20 = h143_20 := rfl
theorem cH143_14 : cfg.H 143 14 = h143_14 := rfl
theorem cH143_5 : cfg.H 143 5 = h143_5 := rfl
theorem cH143_3 : cfg.H 143 3 = h143_3 := rfl
theorem cH145_5 : cfg.H 145 5 = h145_5 := rfl
theorem cH145_3 : cfg.H 145 3 = h145_3 := rfl
theorem cH146_15 : cfg.H 146 15 = h146_15 := rfl
theorem cH146_13 : cfg.H 146 13 = h146_13 := rfl
theorem cH146_5 : cfg.H 146 5 = h146_5 := rfl
theorem cH146_3 : cfg.H 146 3 = h146_3 := rfl
theorem cH149_2 : cfg.H 149 2 = h149_2 := rfl
theorem cH152_4 : cfg.H 152 4 = h152_4 := rfl
theorem cH154_1 : cfg.H 154 1 = h154_1 := rfl
theorem cD5_12 : cfg.D 5 12 = p5_12 := rfl
theorem cD5_14 : cfg.D 5 14 = p5_14 := rfl
theorem cD5_24 : cfg.D 5 24 = p5_24 := rfl
theorem cD7_5 : cfg.D 7 5 = p7_5 := rfl
theorem cD13_6 : cfg.D 13 6 = p13_6 := rfl
theorem cD15_7 : cfg.D 15 7 = p15_7 := rfl
theorem cD15_13 : cfg.D 15 13 = p15_13 := rfl
theorem cD18_3 : cfg.D 18 3 = p18_3 := rfl
theorem cD18_9 : cfg.D 18 9 = p18_9 := rfl
theorem cD18_13 : cfg.D 18 13 = p18_13 := rfl
theorem cD22_6 : cfg.D 22 6 = p22_6 := rfl
theorem cD23_3 : cfg.D 23 3 = p23_3 := rfl
theorem cD23_8 : cfg.D 23 8 = p23_8 := rfl
theorem cD23_12 : cfg.D 23 12 = p23_12 := rfl
theorem cD28_13 : cfg.D 28 13 = p28_13 := rfl
theorem cD35_12 : cfg.D 35 12 = p35_12 := rfl
theorem cD36_6 : cfg.D 36 6 = p36_6 := rfl
theorem cD37_6 : cfg.D 37 6 = p37_6 := rfl
theorem cD40_4 : cfg.D 40 4 = p40_4 := rfl
theorem cD41_4 : cfg.D 41 4 = p41_4 := rfl
theorem cD42_1 : cfg.D 42 1 = p42_1 := rfl
theorem cD42_5 : cfg.D 42 5 = p42_5 := rfl
theorem cD50_6 : cfg.D 50 6 = p50_6 := rfl
theorem cD54_6 : cfg.D 54 6 = p54_6 := rfl
theorem cD55_6 : cfg.D 55 6 = p55_6 := rfl
theorem cD63_6 : cfg.D 63 6 = p63_6 := rfl
theorem cD64_5 : cfg.D 64 5 = p64_5 := rfl
theorem cD64_10 : cfg.D 64 10 = p64_10 := rfl
theorem cD66_5 : cfg.D 66 5 = p66_5 := rfl
theorem cD77_13 : cfg.D 77 13 = p77_13 := rfl
theorem cD78_6 : cfg.D 78 6 = p78_6 := rfl
theorem cD80_10 : cfg.D 80 10 = p80_10 := rfl
theorem cD82_1 : cfg.D 82 1 = p82_1 := rfl
theorem cD85_6 : cfg.D 85 6 = p85_6 := rfl
theorem cD98_4 : cfg.D 98 4 = p98_4 := rfl
theorem cD103_10 : cfg.D 103 10 = p103_10 := rfl
theorem cD104_2 : cfg.D 104 2 = p104_2 := rfl
theorem cD104_3 : cfg.D 104 3 = p104_3 := rfl
theorem cD104_4 : cfg.D 104 4 = p104_4 := rfl
theorem cD107_9 : cfg.D 107 9 = p107_9 := rfl
theorem cD108_1 : cfg.D 108 1 = p108_1 := rfl
theorem cD108_12 : cfg.D 108 12 = p108_12 := rfl
theorem cD108_15 : cfg.D 108 15 = p108_15 := rfl
theorem cD109_6 : cfg.D 109 6 = p109_6 := rfl
theorem cD109_9 : cfg.D 109 9 = p109_9 := rfl
theorem cD111_6 : cfg.D 111 6 = p111_6 := rfl
theorem cD120_1 : cfg.D 120 1 = p120_1 := rfl
theorem cD122_6 : cfg.D 122 6 = p122_6 := rfl
theorem cD129_17 : cfg.D 129 17 = p129_17 := rfl
theorem cD138_4 : cfg.D 138 4 = p138_4 := rfl
theorem cD138_6 : cfg.D 138 6 = p138_6 := rfl
theorem cD139_10 : cfg.D 139 10 = p139_10 := rfl
theorem cD140_10 : cfg.D 140 10 = p140_10 := rfl
theorem cD142_3 : cfg.D 142 3 = p142_3 := rfl
theorem cD143_5 : cfg.D 143 5 = p143_5 := rfl
theorem cD143_11 : cfg.D 143 11 = p143_11 := rfl
theorem cD143_16 : cfg.D 143 16 = p143_16 := rfl
theorem cD143_17 : cfg.D 143 17 = p143_17 := rfl
theorem cD143_22 : cfg.D 143 22 = p143_22 := rfl
theorem cD143_23 : cfg.D 143 23 = p143_23 := rfl
theorem cD145_1 : cfg.D 145 1 = p145_1 := rfl
theorem cD145_3 : cfg.D 145 3 = p145_3 := rfl
theorem cD145_5 : cfg.D 145 5 = p145_5 := rfl
theorem cD145_8 : cfg.D 145 8 = p145_8 := rfl
theorem cD146_1 : cfg.D 146 1 = p146_1 := rfl
theorem cD146_3 : cfg.D 146 3 = p146_3 := rfl
theorem cD146_5 : cfg.D 146 5 = p146_5 := rfl
theorem cD146_8 : cfg.D 146 8 = p146_8 := rfl
theorem cD146_10 : cfg.D 146 10 = p146_10 := rfl
theorem cD146_13 : cfg.D 146 13 = p146_13 := rfl
theorem cD146_15 : cfg.D 146 15 = p146_15 := rfl
theorem cD146_18 : cfg.D 146 18 = p146_18 := rfl
theorem cD146_21 : cfg.D 146 21 = p146_21 := rfl
theorem cD152_6 : cfg.D 152 6 = p152_6 := rfl
theorem cD154_3 : cfg.D 154 3 = p154_3 := rfl
theorem cD154_5 : cfg.D 154 5 = p154_5 := rfl
theorem cD154_6 : cfg.D 154 6 = p154_6 := rfl
theorem cD156_1 : cfg.D 156 1 = p156_1 := rfl
theorem cD156_2 : cfg.D 156 2 = p156_2 := rfl
theorem cD156_3 : cfg.D 156 3 = p156_3 := rfl
theorem cD162_1 : cfg.D 162 1 = p162_1 := rfl
attribute [push_cast] cH6_16 h6_16 cH6_7 h6_7 cH7_9 h7_9 cH7_4 h7_4 cH11_3 h11_3 cH12_5 h12_5 cH13_4 h13_4 cH14_2 h14_2 cH15_2 h15_2 cH18_11 h18_11 cH18_5 h18_5 cH22_4 h22_4 cH23_10 h23_10 cH23_5 h23_5 cH25_3 h25_3 cH26_3 h26_3 cH28_11 h28_11 cH30_5 h30_5 cH32_10 h32_10 cH32_5 h32_5 cH35_11 h35_11 cH35_5 h35_5 cH36_4 h36_4 cH37_4 h37_4 cH38_2 h38_2 cH39_2 h39_2 cH40_2 h40_2 cH41_2 h41_2 cH43_4 h43_4 cH44_3 h44_3 cH45_4 h45_4 cH47_3 h47_3 cH49_10 h49_10 cH49_6 h49_6 cH51_3 h51_3 cH53_9 h53_9 cH53_5 h53_5 cH54_4 h54_4 cH55_4 h55_4 cH59_2 h59_2 cH60_3 h60_3 cH63_4 h63_4 cH64_8 h64_8 cH64_2 h64_2 cH65_2 h65_2 cH66_2 h66_2 cH68_7 h68_7 cH69_3 h69_3 cH72_2 h72_2 cH73_2 h73_2 cH77_8 h77_8 cH77_3 h77_3 cH78_4 h78_4 cH83_9 h83_9 cH85_4 h85_4 cH96_2 h96_2 cH97_2 h97_2 cH98_2 h98_2 cH102_2 h102_2 cH103_2 h103_2 cH107_4 h107_4 cH108_2 h108_2 cH111_4 h111_4 cH116_1 h116_1 cH117_2 h117_2 cH119_2 h119_2 cH122_4 h122_4 cH123_7 h123_7 cH123_3 h123_3 cH127_2 h127_2 cH129_2 h129_2 cH133_3 h133_3 cH138_4 h138_4 cH138_1 h138_1 cH139_8 h139_8 cH139_4 h139_4 cH140_5 h140_5 cH142_2 h142_2 cH143_20 h143_20 cH143_14 h143_14 cH143_5 h143_5 cH143_3 h143_3 cH145_5 h145_5 cH145_3 h145_3 cH146_15 h146_15 cH146_13 h146_13 cH146_5 h146_5 cH146_3 h146_3 cH149_2 h149_2 cH152_4 h152_4 cH154_1 h154_1 cD5_12 p5_12 cD5_14 p5_14 cD5_24 p5_24 cD7_5 p7_5 cD13_6 p13_6 cD15_7 p15_7 cD15_13 p15_13 cD18_3 p18_3 cD18_9 p18_9 cD18_13 p18_13 cD22_6 p22_6 cD23_3 p23_3 cD23_8 p23_8 cD23_12 p23_12 cD28_13 p28_13 cD35_12 p35_12 cD36_6 p36_6 cD37_6 p37_6 cD40_4 p40_4 cD41_4 p41_4 cD42_1 p42_1 cD42_5 p42_5 cD50_6 p50_6 cD54_6 p54_6 cD55_6 p55_6 cD63_6 p63_6 cD64_5 p64_5 cD64_10 p64_10 cD66_5 p66_5 cD77_13 p77_13 cD78_6 p78_6 cD80_10 p80_10 cD82_1 p82_1 cD85_6 p85_6 cD98_4 p98_4 cD103_10 p103_10 cD104_2 p104_2 cD104_3 p104_3 cD104_4 p104_4 cD107_9 p107_9 cD108_1 p108_1 cD108_12 p108_12 cD108_15 p108_15 cD109_6 p109_6 cD109_9 p109_9 cD111_6 p111_6 cD120_1 p120_1 cD122_6 p122_6 cD129_17 p129_17 cD138_4 p138_4 cD138_6 p138_6 cD139_10 p139_10 cD140_10 p140_10 cD142_3 p142_3 cD143_5 p143_5 cD143_11 p143_11 cD143_16 p143_16 cD143_17 p143_17 cD143_22 p143_22 cD143_23 p143_23 cD145_1 p145_1 cD145_3 p145_3 cD145_5 p145_5 cD145_8 p145_8 cD146_1 p146_1 cD146_3 p146_3 cD146_5 p146_5 cD146_8 p146_8 cD146_10 p146_10 cD146_13 p146_13 cD146_15 p146_15 cD146_18 p146_18 cD146_21 p146_21 cD152_6 p152_6 cD154_3 p154_3 cD154_5 p154_5 cD154_6 p154_6 cD156_1 p156_1 cD156_2 p156_2 cD156_3 p156_3 cD162_1 p162_1
theorem cfg_mixed : cfg.P.follows .mixedOrders = true := by show Tryz.prog.follows .mixedOrders = true; kernel_rfl
end Go.Av
end
section
namespace Go.Av
open Go.Proofs
set_option linter.unusedSimpArgs false
def cZ (p : Nat → Tok) (i : Nat) (c : C) : List T := [.sl (.tok (p i)) (c.row.map vC), .i .i64 c.n]
theorem cZ_nm {p : Nat → Tok} (hp : ∀ i, [i] <+: p i) (i : Nat) (c : C) : Nm [i] (tkCs (cZ p i c)) := by
  simp only [cZ, tkCs, tkT, annTok, tk_vC, List.append_nil]
  exact ⟨fun x hx => by simp only [List.mem_singleton] at hx; exact ⟨p i, hx, hp i⟩, by simp⟩
@[push_cast] theorem cn_cZ (f : Nat → Tok) (l : List C) (p : Tok) (i : Nat) : cnEs p i (l.mapIdx (cZ f)) = cnEs p i (l.map cC) := by
  refine cnEs_same ?_
  rw [annEs_mapIdx (g := cC) (fun i x => by simp only [cZ, annCs, T.ann, er_vC]; rfl) l, er_cC]
end Go.Av
end
section
namespace Go.Av
open Go.Proofs
set_option linter.unusedSimpArgs false
@[push_cast] theorem ev_eqValue (k : Int) (n : Int) (s : ByteArray) (y_k : Int) (y_n : Int) (y_s : ByteArray) : evF cfg 161 [] [.agg [.d (.i .i64 k), .d (.i .i64 n), .d (.s s)], .agg [.d (.i .i64 y_k), .d (.i .i64 y_n), .d (.s y_s)]] = some (.d (.b (decide ((⟨k, n, s⟩ : V) = ⟨y_k, y_n, y_s⟩))), []) := by
  (refine (evF_code (C := cfg) (g := 161) (fn := Tryz.f161) rfl Tryz.func161 rfl (by rw [Tryz.ntmps161]; simp) (by kernel_rfl) (by first | decide | simp [keysOf])).trans ?_; rw [Tryz.results161, Tryz.ntmps161])
  repeat' (first | with_reducible refine br_split (fun _ => ?_) (fun _ => ?_) | simp only [*, push_cast, simprocAttr] | (rw [drawC_ok]; rotate_left; decide +kernel; exact cfg_mixed))
  all_goals simp_all
end Go.Av
end
section
namespace Go.Av
open Go.Proofs
set_option linter.unusedSimpArgs false
end Go.Av
end
section
namespace Go.Av
open Go.Proofs
set_option linter.unusedSimpArgs false
theorem ev_IndexFuncbyte_A0 {h : FuncId} {p : UInt8 → Bool} (l : List UInt8) (hl : l.length ≤ 1099511627776) (hp : ∀ x ∈ l, evF cfg 113 [(0, .box [.clo h []])] [.d (.i .u8 x.toNat), .ptr 0 0] = some (.d (.b (p x)), [(0, .box [.clo h []])])) :
    evF cfg 127 [(0, .box [.clo h []])] [.d (.sl .any (l.map byC)), .clo 113 [.ptr 0 0]] = some (.d (.i .i64 (idxOf p l)), [(0, .box [.clo h []])]) := by
  (refine (evF_code (C := cfg) (g := 127) (fn := Tryz.f127) rfl Tryz.func127 rfl (by rw [Tryz.ntmps127]; simp) (by kernel_rfl) (by first | decide | simp [keysOf])).trans ?_; rw [Tryz.results127, Tryz.ntmps127])
  repeat' (first | with_reducible refine br_split (fun _ => ?_) (fun _ => ?_) | simp only [*, push_cast, simprocAttr] | (rw [drawC_ok]; rotate_left; decide +kernel; exact cfg_mixed))
  rw [evM_for0 l.length (fun i j => { t := [(0, .d (.sl .any (l.map byC))), (1, .clo 113 [.ptr 0 0]), (7, .d (.i .i64 l.length)), (8, .d (.i .i64 j))], o := [(0, .box [.clo h []])], ks := [0], n := 0, sz := 19, u := noU })
    (fun i => br ((l.drop i).any p) (some (.ret, { t := [(4, .d (.i .i64 (i + (l.drop i).findIdx p : Nat)))], o := [(0, .box [.clo h []])], ks := [0], n := 0, sz := 19, u := noU })) (some (.exit 0, { t := [], o := [(0, .box [.clo h []])], ks := [0], n := 0, sz := 19, u := noU })) ⟨⟩) ?step ?last]
  case step =>
    intro i hi ih
    have hc : (l.map byC)[i]? = some [.i .u8 l[i].toNat] := get_map byC l i hi
    have hd := dec_lt hi
    have hw : IntKind.i64.wrap ((i : Int) + 1) = (i : Int) + 1 := wrap_succ (by omega)
    have he := hp _ (List.getElem_mem hi)
    have hx := List.drop_eq_getElem_cons hi
    cases hpi : p l[i] with
    | true =>
      have h1 : (l.drop i).any p = true := by rw [hx, List.any_cons, hpi, Bool.true_or]
      have h2 : (l.drop i).findIdx p = 0 := by rw [hx, List.findIdx_cons, hpi]; rfl
      rw [h1, h2]
      clear hx h1 h2
      repeat' (first | with_reducible refine br_split (fun _ => ?_) (fun _ => ?_) | simp only [*, push_cast, simprocAttr] | (rw [drawC_ok]; rotate_left; decide +kernel; exact cfg_mixed))
    | false =>
      have h1 : (l.drop i).any p = (l.drop (i + 1)).any p := by rw [hx, List.any_cons, hpi, Bool.false_or]
      have h2 : i + (l.drop i).findIdx p = i + 1 + (l.drop (i + 1)).findIdx p := by rw [hx, List.findIdx_cons, hpi, cond_false]; omega
      rw [h1, h2]
      clear hx h1 h2
      repeat' (first | with_reducible refine br_split (fun _ => ?_) (fun _ => ?_) | simp only [*, push_cast, simprocAttr] | (rw [drawC_ok]; rotate_left; decide +kernel; exact cfg_mixed))
  case last =>
    rw [List.drop_length, List.any_nil]
    repeat' (first | with_reducible refine br_split (fun _ => ?_) (fun _ => ?_) | simp only [*, push_cast, simprocAttr] | (rw [drawC_ok]; rotate_left; decide +kernel; exact cfg_mixed))
  · unfold idxOf
    rw [List.drop_zero, Nat.zero_add]
    cases l.any p <;> repeat' (first | with_reducible refine br_split (fun _ => ?_) (fun _ => ?_) | simp only [*, push_cast, simprocAttr] | (rw [drawC_ok]; rotate_left; decide +kernel; exact cfg_mixed))
theorem ev_ContainsFuncbyte_A0 {h : FuncId} {p : UInt8 → Bool} (l : List UInt8) (hl : l.length ≤ 1099511627776) (hp : ∀ x ∈ l, evF cfg 113 [(0, .box [.clo h []])] [.d (.i .u8 x.toNat), .ptr 0 0] = some (.d (.b (p x)), [(0, .box [.clo h []])])) :
    evF cfg 112 [(0, .box [.clo h []])] [.d (.sl .any (l.map byC)), .clo 113 [.ptr 0 0]] = some (.d (.b (l.any p)), [(0, .box [.clo h []])]) := by
  have hi := ev_IndexFuncbyte_A0  l hl hp
  have ha := idxOf_any p l
  clear hp
  (refine (evF_code (C := cfg) (g := 112) (fn := Tryz.f112) rfl Tryz.func112 rfl (by rw [Tryz.ntmps112]; simp) (by kernel_rfl) (by first | decide | simp [keysOf])).trans ?_; rw [Tryz.results112, Tryz.ntmps112])
  repeat' (first | with_reducible refine br_split (fun _ => ?_) (fun _ => ?_) | simp only [*, push_cast, simprocAttr] | (rw [drawC_ok]; rotate_left; decide +kernel; exact cfg_mixed))
theorem ev_areAll1byte_0 {h : FuncId} {p : Bool} (x : UInt8) (hx : cfg.E h = none) (hX : cfg.Y h = false) (hZ : cfg.Z h = false) (hp : evF cfg h [] [.d (.i .u8 x.toNat)] = some (.d (.b p), [])) :
    evF cfg 113 [(0, .box [.clo h []])] [.d (.i .u8 x.toNat), .ptr 0 0] = some (.d (.b (!p)), [(0, .box [.clo h []])]) := by
  simp only [push_cast, simprocAttr] at hx hX hZ
  (refine (evF_code (C := cfg) (g := 113) (fn := Tryz.f113) rfl Tryz.func113 rfl (by rw [Tryz.ntmps113]; simp) (by kernel_rfl) (by first | decide | simp [keysOf])).trans ?_; rw [Tryz.results113, Tryz.ntmps113])
  repeat' (first | with_reducible refine br_split (fun _ => ?_) (fun _ => ?_) | simp only [*, push_cast, simprocAttr] | (rw [drawC_ok]; rotate_left; decide +kernel; exact cfg_mixed))
theorem ev_areAllbyte_0 {h : FuncId} {p : UInt8 → Bool} (l : List UInt8) (hl : l.length ≤ 1099511627776) (hx : cfg.E h = none) (hX : cfg.Y h = false) (hZ : cfg.Z h = false)
    (hp : ∀ x ∈ l, evF cfg h [] [.d (.i .u8 x.toNat)] = some (.d (.b (p x)), [])) :
    evF cfg 87 [] [.d (.sl .any (l.map byC)), .clo h []] = some (.d (.b (l.all p)), []) := by
  have hc := ev_ContainsFuncbyte_A0 (h := h)  l hl (fun x hm => ev_areAll1byte_0  x hx hX hZ (hp x hm))
  have ha : (!l.any fun x => !p x) = l.all p := not_any p l
  clear hp
  (refine (evF_code (C := cfg) (g := 87) (fn := Tryz.f87) rfl Tryz.func87 rfl (by rw [Tryz.ntmps87]; simp) (by kernel_rfl) (by first | decide | simp [keysOf])).trans ?_; rw [Tryz.results87, Tryz.ntmps87])
  repeat' (first | with_reducible refine br_split (fun _ => ?_) (fun _ => ?_) | simp only [*, push_cast, simprocAttr] | (rw [drawC_ok]; rotate_left; decide +kernel; exact cfg_mixed))
end Go.Av
end
section
namespace Go.Av
open Go.Proofs
set_option linter.unusedSimpArgs false
theorem ev_IndexFuncValue_A0 {h : FuncId} {p : V → Bool} (l : List V) (hl : l.length ≤ 1099511627776) (hp : ∀ x ∈ l, evF cfg 132 [(0, .box [.clo h []])] [.agg [.d (.i .i64 x.k), .d (.i .i64 x.n), .d (.s x.s)], .ptr 0 0] = some (.d (.b (p x)), [(0, .box [.clo h []])])) :
    evF cfg 149 [(0, .box [.clo h []])] [.d (.sl .any (l.map vC)), .clo 132 [.ptr 0 0]] = some (.d (.i .i64 (idxOf p l)), [(0, .box [.clo h []])]) := by
  (refine (evF_code (C := cfg) (g := 149) (fn := Tryz.f149) rfl Tryz.func149 rfl (by rw [Tryz.ntmps149]; simp) (by kernel_rfl) (by first | decide | simp [keysOf])).trans ?_; rw [Tryz.results149, Tryz.ntmps149])
  repeat' (first | with_reducible refine br_split (fun _ => ?_) (fun _ => ?_) | simp only [*, push_cast, simprocAttr] | (rw [drawC_ok]; rotate_left; decide +kernel; exact cfg_mixed))
  rw [evM_for0 l.length (fun i j => { t := [(0, .d (.sl .any (l.map vC))), (1, .clo 132 [.ptr 0 0]), (7, .d (.i .i64 l.length)), (8, .d (.i .i64 j))], o := [(0, .box [.clo h []])], ks := [0], n := 0, sz := 19, u := noU })
    (fun i => br ((l.drop i).any p) (some (.ret, { t := [(4, .d (.i .i64 (i + (l.drop i).findIdx p : Nat)))], o := [(0, .box [.clo h []])], ks := [0], n := 0, sz := 19, u := noU })) (some (.exit 0, { t := [], o := [(0, .box [.clo h []])], ks := [0], n := 0, sz := 19, u := noU })) ⟨⟩) ?step ?last]
  case step =>
    intro i hi ih
    have hc : (l.map vC)[i]? = some [.i .i64 l[i].k, .i .i64 l[i].n, .s l[i].s] := get_map vC l i hi
    have hd := dec_lt hi
    have hw : IntKind.i64.wrap ((i : Int) + 1) = (i : Int) + 1 := wrap_succ (by omega)
    have he := hp _ (List.getElem_mem hi)
    have hx := List.drop_eq_getElem_cons hi
    cases hpi : p l[i] with
    | true =>
      have h1 : (l.drop i).any p = true := by rw [hx, List.any_cons, hpi, Bool.true_or]
      have h2 : (l.drop i).findIdx p = 0 := by rw [hx, List.findIdx_cons, hpi]; rfl
      rw [h1, h2]
      clear hx h1 h2
      repeat' (first | with_reducible refine br_split (fun _ => ?_) (fun _ => ?_) | simp only [*, push_cast, simprocAttr] | (rw [drawC_ok]; rotate_left; decide +kernel; exact cfg_mixed))
    | false =>
      have h1 : (l.drop i).any p = (l.drop (i + 1)).any p := by rw [hx, List.any_cons, hpi, Bool.false_or]
      have h2 : i + (l.drop i).findIdx p = i + 1 + (l.drop (i + 1)).findIdx p := by rw [hx, List.findIdx_cons, hpi, cond_false]; omega
      rw [h1, h2]
      clear hx h1 h2
      repeat' (first | with_reducible refine br_split (fun _ => ?_) (fun _ => ?_) | simp only [*, push_cast, simprocAttr] | (rw [drawC_ok]; rotate_left; decide +kernel; exact cfg_mixed))
  case last =>
    rw [List.drop_length, List.any_nil]
    repeat' (first | with_reducible refine br_split (fun _ => ?_) (fun _ => ?_) | simp only [*, push_cast, simprocAttr] | (rw [drawC_ok]; rotate_left; decide +kernel; exact cfg_mixed))
  · unfold idxOf
    rw [List.drop_zero, Nat.zero_add]
    cases l.any p <;> repeat' (first | with_reducible refine br_split (fun _ => ?_) (fun _ => ?_) | simp only [*, push_cast, simprocAttr] | (rw [drawC_ok]; rotate_left; decide +kernel; exact cfg_mixed))
theorem ev_ContainsFuncValue_A0 {h : FuncId} {p : V → Bool} (l : List V) (hl : l.length ≤ 1099511627776) (hp : ∀ x ∈ l, evF cfg 132 [(0, .box [.clo h []])] [.agg [.d (.i .i64 x.k), .d (.i .i64 x.n), .d (.s x.s)], .ptr 0 0] = some (.d (.b (p x)), [(0, .box [.clo h []])])) :
    evF cfg 131 [(0, .box [.clo h []])] [.d (.sl .any (l.map vC)), .clo 132 [.ptr 0 0]] = some (.d (.b (l.any p)), [(0, .box [.clo h []])]) := by
  have hi := ev_IndexFuncValue_A0  l hl hp
  have ha := idxOf_any p l
  clear hp
  (refine (evF_code (C := cfg) (g := 131) (fn := Tryz.f131) rfl Tryz.func131 rfl (by rw [Tryz.ntmps131]; simp) (by kernel_rfl) (by first | decide | simp [keysOf])).trans ?_; rw [Tryz.results131, Tryz.ntmps131])
  repeat' (first | with_reducible refine br_split (fun _ => ?_) (fun _ => ?_) | simp only [*, push_cast, simprocAttr] | (rw [drawC_ok]; rotate_left; decide +kernel; exact cfg_mixed))
theorem ev_areAll1Value_0 {h : FuncId} {p : Bool} (x : V) (hx : cfg.E h = none) (hX : cfg.Y h = false) (hZ : cfg.Z h = false) (hp : evF cfg h [] [.agg [.d (.i .i64 x.k), .d (.i .i64 x.n), .d (.s x.s)]] = some (.d (.b p), [])) :
    evF cfg 132 [(0, .box [.clo h []])] [.agg [.d (.i .i64 x.k), .d (.i .i64 x.n), .d (.s x.s)], .ptr 0 0] = some (.d (.b (!p)), [(0, .box [.clo h []])]) := by
  simp only [push_cast, simprocAttr] at hx hX hZ
  (refine (evF_code (C := cfg) (g := 132) (fn := Tryz.f132) rfl Tryz.func132 rfl (by rw [Tryz.ntmps132]; simp) (by kernel_rfl) (by first | decide | simp [keysOf])).trans ?_; rw [Tryz.results132, Tryz.ntmps132])
  repeat' (first | with_reducible refine br_split (fun _ => ?_) (fun _ => ?_) | simp only [*, push_cast, simprocAttr] | (rw [drawC_ok]; rotate_left; decide +kernel; exact cfg_mixed))
theorem ev_areAllValue_0 {h : FuncId} {p : V → Bool} (l : List V) (hl : l.length ≤ 1099511627776) (hx : cfg.E h = none) (hX : cfg.Y h = false) (hZ : cfg.Z h = false)
    (hp : ∀ x ∈ l, evF cfg h [] [.agg [.d (.i .i64 x.k), .d (.i .i64 x.n), .d (.s x.s)]] = some (.d (.b (p x)), [])) :
    evF cfg 118 [] [.d (.sl .any (l.map vC)), .clo h []] = some (.d (.b (l.all p)), []) := by
  have hc := ev_ContainsFuncValue_A0 (h := h)  l hl (fun x hm => ev_areAll1Value_0  x hx hX hZ (hp x hm))
  have ha : (!l.any fun x => !p x) = l.all p := not_any p l
  clear hp
  (refine (evF_code (C := cfg) (g := 118) (fn := Tryz.f118) rfl Tryz.func118 rfl (by rw [Tryz.ntmps118]; simp) (by kernel_rfl) (by first | decide | simp [keysOf])).trans ?_; rw [Tryz.results118, Tryz.ntmps118])
  repeat' (first | with_reducible refine br_split (fun _ => ?_) (fun _ => ?_) | simp only [*, push_cast, simprocAttr] | (rw [drawC_ok]; rotate_left; decide +kernel; exact cfg_mixed))
end Go.Av
end
section
namespace Go.Av
open Go.Proofs
set_option linter.unusedSimpArgs false
@[push_cast] theorem ev_l01In (x a b : Int) : evF cfg 67 [] [.d (.i .i64 x), .d (.i .i64 a), .d (.i .i64 b)] = some (.d (.b (decide (a ≤ x) && decide (x ≤ b))), []) := by
  (refine (evF_code (C := cfg) (g := 67) (fn := Tryz.f67) rfl Tryz.func67 rfl (by rw [Tryz.ntmps67]; simp) (by kernel_rfl) (by first | decide | simp [keysOf])).trans ?_; rw [Tryz.results67, Tryz.ntmps67])
  repeat' (first | with_reducible refine br_split (fun _ => ?_) (fun _ => ?_) | simp only [*, push_cast, simprocAttr] | (rw [drawC_ok]; rotate_left; decide +kernel; exact cfg_mixed))
@[push_cast] theorem ev_within (x a b : Int) : evF cfg 58 [] [.d (.i .i64 x), .d (.i .i64 a), .d (.i .i64 b)] = some (.d (.b (decide (a ≤ x) && decide (x ≤ b))), []) := by
  (refine (evF_code (C := cfg) (g := 58) (fn := Tryz.f58) rfl Tryz.func58 rfl (by rw [Tryz.ntmps58]; simp) (by kernel_rfl) (by first | decide | simp [keysOf])).trans ?_; rw [Tryz.results58, Tryz.ntmps58])
  repeat' (first | with_reducible refine br_split (fun _ => ?_) (fun _ => ?_) | simp only [*, push_cast, simprocAttr] | (rw [drawC_ok]; rotate_left; decide +kernel; exact cfg_mixed))
@[push_cast] theorem ev_sValueOk (k n : Int) (s : ByteArray) : evF cfg 99 [] [.agg [.d (.i .i64 k), .d (.i .i64 n), .d (.s s)]] = some (.d (.b (valueOk ⟨k, n, s⟩)), []) := by
  (refine (evF_code (C := cfg) (g := 99) (fn := Tryz.f99) rfl Tryz.func99 rfl (by rw [Tryz.ntmps99]; simp) (by kernel_rfl) (by first | decide | simp [keysOf])).trans ?_; rw [Tryz.results99, Tryz.ntmps99])
  repeat' (first | with_reducible refine br_split (fun _ => ?_) (fun _ => ?_) | simp only [*, push_cast, simprocAttr] | (rw [drawC_ok]; rotate_left; decide +kernel; exact cfg_mixed))
  all_goals simp_all [valueOk]
  all_goals omega
@[push_cast] theorem ev_ValueOk (k n : Int) (s : ByteArray) : evF cfg 100 [] [.agg [.d (.i .i64 k), .d (.i .i64 n), .d (.s s)]] = some (.d (.b (valueOk ⟨k, n, s⟩)), []) := by
  (refine (evF_code (C := cfg) (g := 100) (fn := Tryz.f100) rfl Tryz.func100 rfl (by rw [Tryz.ntmps100]; simp) (by kernel_rfl) (by first | decide | simp [keysOf])).trans ?_; rw [Tryz.results100, Tryz.ntmps100])
  repeat' (first | with_reducible refine br_split (fun _ => ?_) (fun _ => ?_) | simp only [*, push_cast, simprocAttr] | (rw [drawC_ok]; rotate_left; decide +kernel; exact cfg_mixed))
  all_goals simp_all [valueOk]
  all_goals omega
@[push_cast] theorem ev_isNaNI (a : Int) : evF cfg 150 [] [.d (.i .i64 a)] = some (.d (.b false), []) := by
  (refine (evF_code (C := cfg) (g := 150) (fn := Tryz.f150) rfl Tryz.func150 rfl (by rw [Tryz.ntmps150]; simp) (by kernel_rfl) (by first | decide | simp [keysOf])).trans ?_; rw [Tryz.results150, Tryz.ntmps150])
  repeat' (first | with_reducible refine br_split (fun _ => ?_) (fun _ => ?_) | simp only [*, push_cast, simprocAttr] | (rw [drawC_ok]; rotate_left; decide +kernel; exact cfg_mixed))
@[push_cast] theorem ev_cmpI (a b : Int) : evF cfg 134 [] [.d (.i .i64 a), .d (.i .i64 b)] = some (.d (.i .i64 (cmpI a b)), []) := by
  (refine (evF_code (C := cfg) (g := 134) (fn := Tryz.f134) rfl Tryz.func134 rfl (by rw [Tryz.ntmps134]; simp) (by kernel_rfl) (by first | decide | simp [keysOf])).trans ?_; rw [Tryz.results134, Tryz.ntmps134])
  repeat' (first | with_reducible refine br_split (fun _ => ?_) (fun _ => ?_) | simp only [*, push_cast, simprocAttr] | (rw [drawC_ok]; rotate_left; decide +kernel; exact cfg_mixed))
  · simp_all [cmpI]
  · simp_all [cmpI]
  · simp_all [cmpI]
    have h1 : ¬ a < b := by omega
    have h2 : ¬ b < a := by omega
    simp [h1, h2]
@[push_cast] theorem ev_cmpStr (a b : ByteArray) : evF cfg 151 [] [.d (.s a), .d (.s b)] = some (.d (.i .i64 (cmpS a b)), []) := by
  (refine (evF_code (C := cfg) (g := 151) (fn := Tryz.f151) rfl Tryz.func151 rfl (by rw [Tryz.ntmps151]; simp) (by kernel_rfl) (by first | decide | simp [keysOf])).trans ?_; rw [Tryz.results151, Tryz.ntmps151])
  repeat' (first | with_reducible refine br_split (fun _ => ?_) (fun _ => ?_) | simp only [*, cmpE, push_cast, simprocAttr] | (rw [drawC_ok]; rotate_left; decide +kernel; exact cfg_mixed))
  rfl
@[push_cast] theorem ev_stringsCompare (a b : ByteArray) : evF cfg 135 [] [.d (.s a), .d (.s b)] = some (.d (.i .i64 (cmpS a b)), []) := by
  (refine (evF_code (C := cfg) (g := 135) (fn := Tryz.f135) rfl Tryz.func135 rfl (by rw [Tryz.ntmps135]; simp) (by kernel_rfl) (by first | decide | simp [keysOf])).trans ?_; rw [Tryz.results135, Tryz.ntmps135])
  repeat' (first | with_reducible refine br_split (fun _ => ?_) (fun _ => ?_) | simp only [*, push_cast, simprocAttr] | (rw [drawC_ok]; rotate_left; decide +kernel; exact cfg_mixed))
theorem ev_cmpOr3 (a b c : Int) : evF cfg 133 [] [.d (.sl .any [[.i .i64 a], [.i .i64 b], [.i .i64 c]])] = some (.d (.i .i64 (if a ≠ 0 then a else if b ≠ 0 then b else c)), []) := by
  (refine (evF_code (C := cfg) (g := 133) (fn := Tryz.f133) rfl Tryz.func133 rfl (by rw [Tryz.ntmps133]; simp) (by kernel_rfl) (by first | decide | simp [keysOf])).trans ?_; rw [Tryz.results133, Tryz.ntmps133])
  repeat' (first | with_reducible refine br_split (fun _ => ?_) (fun _ => ?_) | simp only [*, push_cast, simprocAttr] | (rw [drawC_ok]; rotate_left; decide +kernel; exact cfg_mixed))
  rw [evM_eq]
  repeat' (first | with_reducible refine br_split (fun _ => ?_) (fun _ => ?_) | simp only [*, push_cast, simprocAttr] | (rw [drawC_ok]; rotate_left; decide +kernel; exact cfg_mixed))
  · simp_all
  rw [evM_eq]
  repeat' (first | with_reducible refine br_split (fun _ => ?_) (fun _ => ?_) | simp only [*, push_cast, simprocAttr] | (rw [drawC_ok]; rotate_left; decide +kernel; exact cfg_mixed))
  · simp_all
  rw [evM_eq]
  repeat' (first | with_reducible refine br_split (fun _ => ?_) (fun _ => ?_) | simp only [*, push_cast, simprocAttr] | (rw [drawC_ok]; rotate_left; decide +kernel; exact cfg_mixed))
  · simp_all
  rw [evM_eq]
  repeat' (first | with_reducible refine br_split (fun _ => ?_) (fun _ => ?_) | simp only [*, push_cast, simprocAttr] | (rw [drawC_ok]; rotate_left; decide +kernel; exact cfg_mixed))
  · simp_all
theorem ev_CompareValue (k n k' n' : Int) (s s' : ByteArray) : evF cfg 120 [] [.agg [.d (.i .i64 k), .d (.i .i64 n), .d (.s s)], .agg [.d (.i .i64 k'), .d (.i .i64 n'), .d (.s s')]] = some (.d (.i .i64 (cmpV ⟨k, n, s⟩ ⟨k', n', s'⟩)), []) := by
  have ho := ev_cmpOr3
  (refine (evF_code (C := cfg) (g := 120) (fn := Tryz.f120) rfl Tryz.func120 rfl (by rw [Tryz.ntmps120]; simp) (by kernel_rfl) (by first | decide | simp [keysOf])).trans ?_; rw [Tryz.results120, Tryz.ntmps120])
  repeat' (first | with_reducible refine br_split (fun _ => ?_) (fun _ => ?_) | simp only [*, push_cast, simprocAttr] | (rw [drawC_ok]; rotate_left; decide +kernel; exact cfg_mixed))
  rfl
theorem ev_sCompareValue (k n k' n' : Int) (s s' : ByteArray) : evF cfg 121 [] [.agg [.d (.i .i64 k), .d (.i .i64 n), .d (.s s)], .agg [.d (.i .i64 k'), .d (.i .i64 n'), .d (.s s')]] = some (.d (.i .i64 (cmpV ⟨k, n, s⟩ ⟨k', n', s'⟩)), []) := by
  (refine (evF_code (C := cfg) (g := 121) (fn := Tryz.f121) rfl Tryz.func121 rfl (by rw [Tryz.ntmps121]; simp) (by kernel_rfl) (by first | decide | simp [keysOf])).trans ?_; rw [Tryz.results121, Tryz.ntmps121])
  repeat' (first | with_reducible refine br_split (fun _ => ?_) (fun _ => ?_) | simp only [*, push_cast, simprocAttr] | (rw [drawC_ok]; rotate_left; decide +kernel; exact cfg_mixed))
  all_goals simp_all [cmpV, cmpI, cmpS_spec]
  all_goals (repeat' split)
  all_goals first
    | omega
    | simp_all
    | (intros; omega)
  all_goals first | omega | (intros; omega)
end Go.Av
end
section
namespace Go.Av
open Go.Proofs
set_option linter.unusedSimpArgs false
attribute [push_cast] ev_CompareValue ev_sCompareValue
theorem ev_CompareFunc (a b : List V) (hl : a.length ≤ 1099511627776) : evF cfg 119 []
    [.d (.sl .any (a.map vC)), .d (.sl .any (b.map vC)), .clo 120 []] = some (.d (.i .i64 (cmpRow a b)), []) := by
  (refine (evF_code (C := cfg) (g := 119) (fn := Tryz.f119) rfl Tryz.func119 rfl (by rw [Tryz.ntmps119]; simp) (by kernel_rfl) (by first | decide | simp [keysOf])).trans ?_; rw [Tryz.results119, Tryz.ntmps119])
  repeat' (first | with_reducible refine br_split (fun _ => ?_) (fun _ => ?_) | simp only [*, push_cast, simprocAttr] | (rw [drawC_ok]; rotate_left; decide +kernel; exact cfg_mixed))
  rw [evM_for0 a.length (fun i j => { t := [(0, .d (.sl .any (a.map vC))), (1, .d (.sl .any (b.map vC))), (2, .clo 120 []), (11, .d (.sl .any (a.map vC))), (12, .d (.i .i64 a.length)), (13, .d (.i .i64 j))], o := [], ks := [], n := 0, sz := 39, u := noU })
    (fun i => br (cmpL1 (a.drop i) (b.drop i) != 0) (some (.ret, { t := [(6, .d (.i .i64 (cmpL1 (a.drop i) (b.drop i))))], o := [], ks := [], n := 0, sz := 39, u := noU })) (some (.exit 0, { t := [(0, .d (.sl .any (a.map vC))), (1, .d (.sl .any (b.map vC)))], o := [], ks := [], n := 0, sz := 39, u := noU })) ⟨⟩) ?step ?last]
  case step =>
    intro i hi ih
    have hc : (a.map vC)[i]? = some [.i .i64 a[i].k, .i .i64 a[i].n, .s a[i].s] := get_map vC a i hi
    have hd := dec_lt hi
    have hw := wrap_succ (i := i) (by omega)
    rw [List.drop_eq_getElem_cons hi]
    by_cases hb : i < b.length
    · have hc2 : (b.map vC)[i]? = some [.i .i64 b[i].k, .i .i64 b[i].n, .s b[i].s] := get_map vC b i hb
      have hg : decide ((i : Int) ≥ (b.length : Int)) = false := decide_eq_false (by omega)
      rw [List.drop_eq_getElem_cons hb, cmpL1]
      by_cases he : cmpV a[i] b[i] ≠ 0
      · have h1 : (cmpV a[i] b[i] != 0) = true := by simpa using he
        rw [if_pos he]
        clear he
        repeat' (first | with_reducible refine br_split (fun _ => ?_) (fun _ => ?_) | simp only [*, push_cast, simprocAttr] | (rw [drawC_ok]; rotate_left; decide +kernel; exact cfg_mixed))
      · have h1 : (cmpV a[i] b[i] != 0) = false := by simpa using he
        rw [if_neg he]
        clear he
        repeat' (first | with_reducible refine br_split (fun _ => ?_) (fun _ => ?_) | simp only [*, push_cast, simprocAttr] | (rw [drawC_ok]; rotate_left; decide +kernel; exact cfg_mixed))
    · have hg : decide ((i : Int) ≥ (b.length : Int)) = true := decide_eq_true (by omega)
      rw [List.drop_eq_nil_of_le (by omega : b.length ≤ i), cmpL1]
      have h1 : ((1 : Int) != 0) = true := rfl
      repeat' (first | with_reducible refine br_split (fun _ => ?_) (fun _ => ?_) | simp only [*, push_cast, simprocAttr] | (rw [drawC_ok]; rotate_left; decide +kernel; exact cfg_mixed))
  case last =>
    rw [List.drop_length, cmpL1]
    have h1 : ((0 : Int) != 0) = false := rfl
    repeat' (first | with_reducible refine br_split (fun _ => ?_) (fun _ => ?_) | simp only [*, push_cast, simprocAttr] | (rw [drawC_ok]; rotate_left; decide +kernel; exact cfg_mixed))
  · rw [List.drop_zero, List.drop_zero, cmpRow_1]
    by_cases he : cmpL1 a b ≠ 0
    · have h1 : (cmpL1 a b != 0) = true := by simpa using he
      rw [if_pos he]
      clear he
      repeat' (first | with_reducible refine br_split (fun _ => ?_) (fun _ => ?_) | simp only [*, push_cast, simprocAttr] | (rw [drawC_ok]; rotate_left; decide +kernel; exact cfg_mixed))
    · have h1 : (cmpL1 a b != 0) = false := by simpa using he
      rw [if_neg he]
      clear he
      by_cases hx : a.length < b.length
      · rw [if_pos hx]
        have := dec_lt hx
        repeat' (first | with_reducible refine br_split (fun _ => ?_) (fun _ => ?_) | simp only [*, push_cast, simprocAttr] | (rw [drawC_ok]; rotate_left; decide +kernel; exact cfg_mixed))
      · rw [if_neg hx]
        have : decide ((a.length : Int) < (b.length : Int)) = false := decide_eq_false (by omega)
        repeat' (first | with_reducible refine br_split (fun _ => ?_) (fun _ => ?_) | simp only [*, push_cast, simprocAttr] | (rw [drawC_ok]; rotate_left; decide +kernel; exact cfg_mixed))
theorem ev_CompareRow (a b : List V) (hl : a.length ≤ 1099511627776) : evF cfg 95 [] [.d (.sl .any (a.map vC)), .d (.sl .any (b.map vC))] = some (.d (.i .i64 (cmpRow a b)), []) := by
  have := ev_CompareFunc a b hl
  (refine (evF_code (C := cfg) (g := 95) (fn := Tryz.f95) rfl Tryz.func95 rfl (by rw [Tryz.ntmps95]; simp) (by kernel_rfl) (by first | decide | simp [keysOf])).trans ?_; rw [Tryz.results95, Tryz.ntmps95])
  repeat' (first | with_reducible refine br_split (fun _ => ?_) (fun _ => ?_) | simp only [*, push_cast, simprocAttr] | (rw [drawC_ok]; rotate_left; decide +kernel; exact cfg_mixed))
theorem ev_sCompareRow (a b : List V) (hl : a.length ≤ 1099511627776) : evF cfg 98 [] [.d (.sl .any (a.map vC)), .d (.sl .any (b.map vC))] = some (.d (.i .i64 (cmpRow a b)), []) := by
  (refine (evF_code (C := cfg) (g := 98) (fn := Tryz.f98) rfl Tryz.func98 rfl (by rw [Tryz.ntmps98]; simp) (by kernel_rfl) (by first | decide | simp [keysOf])).trans ?_; rw [Tryz.results98, Tryz.ntmps98])
  repeat' (first | with_reducible refine br_split (fun _ => ?_) (fun _ => ?_) | simp only [*, push_cast, simprocAttr] | (rw [drawC_ok]; rotate_left; decide +kernel; exact cfg_mixed))
  rw [evM_for0 a.length (fun i j => { t := [(0, .d (.sl .any (a.map vC))), (1, .d (.sl .any (b.map vC))), (5, .d (.i .i64 j))], o := [], ks := [], n := 0, sz := 43, u := noU })
    (fun i => br (cmpL2 (a.drop i) (b.drop i) != 0) (some (.ret, { t := [(4, .d (.i .i64 (cmpL2 (a.drop i) (b.drop i))))], o := [], ks := [], n := 0, sz := 43, u := noU })) (some (.exit 0, { t := [(0, .d (.sl .any (a.map vC))), (1, .d (.sl .any (b.map vC)))], o := [], ks := [], n := 0, sz := 43, u := noU })) ⟨⟩) ?step ?last]
  case step =>
    intro i hi ih
    have hc : (a.map vC)[i]? = some [.i .i64 a[i].k, .i .i64 a[i].n, .s a[i].s] := get_map vC a i hi
    have hd := dec_lt hi
    have hw := wrap_succ (i := i) (by omega)
    rw [List.drop_eq_getElem_cons hi]
    by_cases hb : i < b.length
    · have hc2 : (b.map vC)[i]? = some [.i .i64 b[i].k, .i .i64 b[i].n, .s b[i].s] := get_map vC b i hb
      have hg := dec_lt hb
      rw [List.drop_eq_getElem_cons hb, cmpL2]
      by_cases he : cmpV a[i] b[i] ≠ 0
      · have h1 : (cmpV a[i] b[i] != 0) = true := by simpa using he
        rw [if_pos he]
        clear he
        repeat' (first | with_reducible refine br_split (fun _ => ?_) (fun _ => ?_) | simp only [*, push_cast, simprocAttr] | (rw [drawC_ok]; rotate_left; decide +kernel; exact cfg_mixed))
      · have h1 : (cmpV a[i] b[i] != 0) = false := by simpa using he
        rw [if_neg he]
        clear he
        repeat' (first | with_reducible refine br_split (fun _ => ?_) (fun _ => ?_) | simp only [*, push_cast, simprocAttr] | (rw [drawC_ok]; rotate_left; decide +kernel; exact cfg_mixed))
    · have hg : decide ((i : Int) < (b.length : Int)) = false := decide_eq_false (by omega)
      rw [List.drop_eq_nil_of_le (by omega : b.length ≤ i), cmpL2]
      have h1 : ((0 : Int) != 0) = false := rfl
      repeat' (first | with_reducible refine br_split (fun _ => ?_) (fun _ => ?_) | simp only [*, push_cast, simprocAttr] | (rw [drawC_ok]; rotate_left; decide +kernel; exact cfg_mixed))
  case last =>
    rw [List.drop_length, cmpL2]
    have h1 : ((0 : Int) != 0) = false := rfl
    repeat' (first | with_reducible refine br_split (fun _ => ?_) (fun _ => ?_) | simp only [*, push_cast, simprocAttr] | (rw [drawC_ok]; rotate_left; decide +kernel; exact cfg_mixed))
  · rw [List.drop_zero, List.drop_zero, cmpRow_2]
    by_cases he : cmpL2 a b ≠ 0
    · have h1 : (cmpL2 a b != 0) = true := by simpa using he
      rw [if_pos he]
      clear he
      repeat' (first | with_reducible refine br_split (fun _ => ?_) (fun _ => ?_) | simp only [*, push_cast, simprocAttr] | (rw [drawC_ok]; rotate_left; decide +kernel; exact cfg_mixed))
    · have h1 : (cmpL2 a b != 0) = false := by simpa using he
      rw [if_neg he]
      clear he
      by_cases hx : a.length < b.length
      · rw [if_pos hx]
        have := dec_lt hx
        repeat' (first | with_reducible refine br_split (fun _ => ?_) (fun _ => ?_) | simp only [*, push_cast, simprocAttr] | (rw [drawC_ok]; rotate_left; decide +kernel; exact cfg_mixed))
      · rw [if_neg hx]
        have : decide ((a.length : Int) < (b.length : Int)) = false := decide_eq_false (by omega)
        by_cases hy : b.length < a.length
        · rw [if_pos hy]
          have : decide ((a.length : Int) > (b.length : Int)) = true := decide_eq_true (by omega)
          repeat' (first | with_reducible refine br_split (fun _ => ?_) (fun _ => ?_) | simp only [*, push_cast, simprocAttr] | (rw [drawC_ok]; rotate_left; decide +kernel; exact cfg_mixed))
        · rw [if_neg hy]
          have : decide ((a.length : Int) > (b.length : Int)) = false := decide_eq_false (by omega)
          repeat' (first | with_reducible refine br_split (fun _ => ?_) (fun _ => ?_) | simp only [*, push_cast, simprocAttr] | (rw [drawC_ok]; rotate_left; decide +kernel; exact cfg_mixed))
theorem ev_l02Row (l : List V) (w : Int) (hl : l.length ≤ 1099511627776) : evF cfg 97 [] [.d (.sl .any (l.map vC)), .d (.i .i64 w)] = some (.d (.b (((l.length : Int) == w) && l.all valueOk)), []) := by
  (refine (evF_code (C := cfg) (g := 97) (fn := Tryz.f97) rfl Tryz.func97 rfl (by rw [Tryz.ntmps97]; simp) (by kernel_rfl) (by first | decide | simp [keysOf])).trans ?_; rw [Tryz.results97, Tryz.ntmps97])
  repeat' (first | with_reducible refine br_split (fun _ => ?_) (fun _ => ?_) | simp only [*, push_cast, simprocAttr] | (rw [drawC_ok]; rotate_left; decide +kernel; exact cfg_mixed))
  rw [evM_for0 l.length (fun i j => { t := [(0, .d (.sl .any (l.map vC))), (1, .d (.i .i64 w)), (5, .d (.i .i64 j))], o := [], ks := [], n := 0, sz := 22, u := noU })
    (fun i => br ((l.drop i).all valueOk) (some (.exit 0, { t := [(0, .d (.sl .any (l.map vC))), (1, .d (.i .i64 w))], o := [], ks := [], n := 0, sz := 22, u := noU })) (some (.ret, { t := [(4, .d (.b false))], o := [], ks := [], n := 0, sz := 22, u := noU })) ⟨⟩) ?step ?last]
  case step =>
    intro i hi ih
    have hc : (l.map vC)[i]? = some [.i .i64 l[i].k, .i .i64 l[i].n, .s l[i].s] := get_map vC l i hi
    have hd := dec_lt hi
    have hw := wrap_succ (i := i) (by omega)
    rw [List.drop_eq_getElem_cons hi, List.all_cons]
    repeat' (first | with_reducible refine br_split (fun _ => ?_) (fun _ => ?_) | simp only [*, push_cast, simprocAttr] | (rw [drawC_ok]; rotate_left; decide +kernel; exact cfg_mixed))
  case last =>
    rw [List.drop_length, List.all_nil]
    repeat' (first | with_reducible refine br_split (fun _ => ?_) (fun _ => ?_) | simp only [*, push_cast, simprocAttr] | (rw [drawC_ok]; rotate_left; decide +kernel; exact cfg_mixed))
  · rw [List.drop_zero]
    cases h : l.all valueOk <;> repeat' (first | with_reducible refine br_split (fun _ => ?_) (fun _ => ?_) | simp only [*, push_cast, simprocAttr] | (rw [drawC_ok]; rotate_left; decide +kernel; exact cfg_mixed))
theorem ev_isRow (l : List V) (w : Int) (hl : l.length ≤ 1099511627776) : evF cfg 94 [] [.d (.sl .any (l.map vC)), .d (.i .i64 w)] = some (.d (.b (((l.length : Int) == w) && l.all valueOk)), []) := by
  have ha := ev_areAllValue_0 (h := 100) (p := valueOk) l hl rfl rfl rfl (fun x _ => ev_ValueOk _ _ _)
  (refine (evF_code (C := cfg) (g := 94) (fn := Tryz.f94) rfl Tryz.func94 rfl (by rw [Tryz.ntmps94]; simp) (by kernel_rfl) (by first | decide | simp [keysOf])).trans ?_; rw [Tryz.results94, Tryz.ntmps94])
  repeat' (first | with_reducible refine br_split (fun _ => ?_) (fun _ => ?_) | simp only [*, push_cast, simprocAttr] | (rw [drawC_ok]; rotate_left; decide +kernel; exact cfg_mixed))
end Go.Av
end
