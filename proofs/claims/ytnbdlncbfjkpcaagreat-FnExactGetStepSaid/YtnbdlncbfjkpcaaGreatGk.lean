/- What functions of this seat give. -/
import Derived.Test.YtnbdlncbfjkpcaaGreatProg
import Derived.WalkKit
import Derived.ProofKit
import Derived.Lib.Hide
import Derived.Test.YtnbdlncbfjkpcaaGreatAvF
import Derived.Test.YtnbdlncbfjkpcaaGreatGa
set_option linter.all false
set_option linter.unusedVariables false
set_option linter.unusedSimpArgs false

section
namespace Go.Av
open Go.Proofs Go.RowKit
set_option linter.unusedVariables false
/-- Each of these walks a function that marks a list, against whatever is kept from element to element. -/
theorem raw_CountedS {P : Program} (hP : P = Tryz.prog) (w : World) (B off len cap : Nat) (hlen : len ≤ 1099511627776) (k : Int) (I : Nat → Int → World → Prop) (h0 : I 0 k w)
   (hc : ∀ j kk w, j < len → I j kk w → ∃ vr, w.cell? ⟨B, off + j * 2, none⟩ = some vr ∧ Calls Tryz.prog 102 #[vr, .int .i64 kk] w fun e w' => ∃ k' u, e = .returned (.int .i64 k') ∧ w'.cell? ⟨B, off + j * 2 + 1, none⟩ = some u ∧ w'.frozen? ⟨B, off + j * 2 + 1, none⟩ = false ∧
      I (j + 1) (wrap64 (k' + 1)) (w'.setCell ⟨B, off + j * 2 + 1, none⟩ (.int .i64 k'))) :
   Calls Tryz.prog 72 #[.slice (some ⟨B, off, none⟩) len cap, .int .i64 k] w fun e w' => ∃ k', e = .returned (.int .i64 k') ∧ I len k' w' := by
  go_enter Tryz.func72, Tryz.ntmps72
  go_wp2
  go_loopw [1, 5] (fun kv i wr => ∃ (j : Nat) (kk : Int), j ≤ len ∧ i = .int .i64 j ∧ kv = .int .i64 kk ∧ I j kk wr) (fun _ i _ => len - (Go.RowKit.intOf i).toNat)
  case atStart => exact ⟨0, k, Nat.zero_le _, rfl, rfl, h0⟩
  case round =>
    obtain ⟨j, kk, hj, rfl, rfl, hi⟩ := hrel
    rcases Nat.lt_or_ge j len with hjl | hjl
    · obtain ⟨vr, h1, h2⟩ := hc j kk wr hjl hi
      clear hc hi h0
      go_wp2_with (first | (go_at_call 102; refine h2.mono ?_; rintro e w' ⟨k', u, rfl, h3, h4, h5⟩))
      refine ⟨⟨j + 1, _, hjl, by first | rfl | simp, rfl, h5⟩, by simp only [Go.RowKit.intOf]; omega⟩
    · obtain rfl : j = len := by omega
      clear hc h0
      go_wp2
      go_ret
      exact ⟨kk, rfl, hi⟩
theorem raw_ValueS {P : Program} (hP : P = Tryz.prog) (w : World) (B off len cap : Nat) (hlen : len ≤ 1099511627776) (k : Int) (I : Nat → Int → World → Prop) (h0 : I 0 k w)
   (hc : ∀ j kk w, j < len → I j kk w → ∃ u0 u1, w.cell? ⟨B, off + j * 3, none⟩ = some u0 ∧ w.frozen? ⟨B, off + j * 3, none⟩ = false ∧ (w.setCell ⟨B, off + j * 3, none⟩ (.int .i64 kk)).cell? ⟨B, off + j * 3 + 1, none⟩ = some u1 ∧ (w.setCell ⟨B, off + j * 3, none⟩ (.int .i64 kk)).frozen? ⟨B, off + j * 3 + 1, none⟩ = false ∧
      Calls Tryz.prog 43 #[.int .i64 (wrap64 (wrap64 (kk + 1) + 1))] ((w.setCell ⟨B, off + j * 3, none⟩ (.int .i64 kk)).setCell ⟨B, off + j * 3 + 1, none⟩ (.int .i64 (wrap64 (kk + 1)))) fun e w' => ∃ s u, e = .returned (.string s) ∧ w'.cell? ⟨B, off + j * 3 + 2, none⟩ = some u ∧ w'.frozen? ⟨B, off + j * 3 + 2, none⟩ = false ∧
        I (j + 1) (wrap64 (wrap64 (wrap64 (kk + 1) + 1) + 1)) (w'.setCell ⟨B, off + j * 3 + 2, none⟩ (.string s))) :
   Calls Tryz.prog 102 #[.slice (some ⟨B, off, none⟩) len cap, .int .i64 k] w fun e w' => ∃ k', e = .returned (.int .i64 k') ∧ I len k' w' := by
  go_enter Tryz.func102, Tryz.ntmps102
  go_wp2
  go_loopw [1, 5] (fun kv i wr => ∃ (j : Nat) (kk : Int), j ≤ len ∧ i = .int .i64 j ∧ kv = .int .i64 kk ∧ I j kk wr) (fun _ i _ => len - (Go.RowKit.intOf i).toNat)
  case atStart => exact ⟨0, k, Nat.zero_le _, rfl, rfl, h0⟩
  case round =>
    obtain ⟨j, kk, hj, rfl, rfl, hi⟩ := hrel
    rcases Nat.lt_or_ge j len with hjl | hjl
    · obtain ⟨u0, u1, h1, h2, h3, h4, h5⟩ := hc j kk wr hjl hi
      clear hc hi h0
      go_wp2_with (first | (go_at_call 43; refine h5.mono ?_; rintro e w' ⟨s, u, rfl, h6, h7, h8⟩))
      refine ⟨⟨j + 1, _, hjl, by first | rfl | simp, rfl, h8⟩, by simp only [Go.RowKit.intOf]; omega⟩
    · obtain rfl : j = len := by omega
      clear hc h0
      go_wp2
      go_ret
      exact ⟨kk, rfl, hi⟩
theorem raw_nil1 (w : World) (a : Option Addr) (cap : Nat) (k : Int) : Calls Tryz.prog 72 #[.slice a 0 cap, .int .i64 k] w fun e w' => e = .returned (.int .i64 k) ∧ w' = w := by
  go_enter Tryz.func72, Tryz.ntmps72
  go_wp2
  go_loopw [1, 5] (fun kv i wr => i = .int .i64 0 ∧ kv = .int .i64 k ∧ wr = w) (fun _ i _ => 0)
  case atStart => exact ⟨rfl, rfl, rfl⟩
  case round =>
    obtain ⟨rfl, rfl, rfl⟩ := hrel
    go_wp2
    go_ret
    exact ⟨rfl, rfl⟩
theorem raw_nil2 (w : World) (a : Option Addr) (cap : Nat) (k : Int) : Calls Tryz.prog 102 #[.slice a 0 cap, .int .i64 k] w fun e w' => e = .returned (.int .i64 k) ∧ w' = w := by
  go_enter Tryz.func102, Tryz.ntmps102
  go_wp2
  go_loopw [1, 5] (fun kv i wr => i = .int .i64 0 ∧ kv = .int .i64 k ∧ wr = w) (fun _ i _ => 0)
  case atStart => exact ⟨rfl, rfl, rfl⟩
  case round =>
    obtain ⟨rfl, rfl, rfl⟩ := hrel
    go_wp2
    go_ret
    exact ⟨rfl, rfl⟩
end Go.Av
end

section
namespace Go.Av
open Go.Proofs Go.RowKit
set_option linter.unusedVariables false
/-- What the function that makes texts of numbers gives. -/
def TxtOk (mt : Int → ByteArray) : Prop := ∀ (w : World) (k : Int), Calls Tryz.prog 43 #[.int .i64 k] w fun e w' => e = .returned (.string (mt k)) ∧ Below w.heap.size w w'

theorem wrap64_eq (n : Int) : wrap64 n = IntKind.i64.wrap n := by unfold wrap64; exact (IntKind.wrap_i64 n).symm
theorem Mv.below {p : Tok} {w w' : World} {S : Stable} (hn : Nmd w S) (hlt : ∀ b x, S b x → b < w.heap.size) (hnm : ∀ q b, q ≠ [] → S.t q b → ∃ x, S b x) (hb : Below w.heap.size w w') : Mv p w S w' :=
  ⟨hb.os, hb.tape, hb.output, hb.size, fun b h _ => hb.block b h, fun q b hq h => let ⟨x, hx⟩ := hnm q b hq h; by rw [hb.block b (hlt b x hx)]; exact hn.full q b hq h⟩
theorem Row.below {p : Tok} {w w' : World} {S : Stable} {B off m : Nat} {es : List (List T)} {vs : Nat → Nat → Value} (h : Row w S p B off m es vs) (hlt : ∀ b x, S b x → b < w.heap.size) (hb : Below w.heap.size w w') : Row w' S p B off m es vs := by
  have hc : ∀ b x, S b x → w'.cell? ⟨b, x, none⟩ = w.cell? ⟨b, x, none⟩ := fun b x hs => hb.cell (p := ⟨b, x, none⟩) (hlt b x hs)
  exact ⟨h.name, h.hm, h.st, fun i j hi hj => by rw [hc _ _ (h.st i j hi hj)]; exact h.cell i j hi hj, fun i j hi hj => (h.rep i j hi hj).mono (fun _ _ h => h) (fun _ _ h => h) hc⟩

theorem mok_ValueS {mt : Int → ByteArray} (ht : TxtOk mt) : MOk mt Tryz.prog 102 fun es => ∃ l : List V, es = l.map vC ∧ l.length ≤ 1099511627776 := by
  intro w S p es v k hp hn hlt hnm ⟨l, hes, hll⟩ hr
  by_cases he : es = []
  · subst he
    have hv : ∃ a cap, v = .slice a 0 cap := by
      cases hr with
      | nil _ a cap => exact ⟨a, cap, rfl⟩
      | sl _ _ B off m cap vs => exact ⟨_, _, rfl⟩
    obtain ⟨a, cap, rfl⟩ := hv
    refine (raw_nil2 w a cap k).mono ?_
    rintro e w' ⟨rfl, rfl⟩
    exact ⟨rfl, hr, .refl hn⟩
  · obtain ⟨B, off, m, cap, vs0, rfl, hcap, h0, row⟩ := Row.of he hr
    have hel : es.length = l.length := by rw [hes]; simp
    have hpos : 0 < es.length := List.length_pos_iff.2 he
    obtain rfl : m = 3 := by
      have := row.hm 0 hpos
      rw [← this]
      simp [hes, vC]
    refine (raw_ValueS rfl w B off es.length cap (by omega) k (fun j kk wr => ∃ vs, Row wr S p B off 3 (mkUp mt es k j) vs ∧ kk = mkK mt es k j ∧ Mv p w S wr) ⟨vs0, by rw [mkUp_zero]; exact row, rfl, .refl hn⟩ ?_).mono ?_
    · rintro j kk wr hj ⟨vs, row, rfl, hmv⟩
      have hn1 := hmv.nmd hn
      have hlt1 : ∀ b x, S b x → b < wr.heap.size := fun b x h => Nat.lt_of_lt_of_le (hlt b x h) hmv.size
      have hul : j < (mkUp mt es k j).length := by rw [mkUp_len]; exact hj
      have hE : (mkUp mt es k j)[j] = [.i .i64 l[j].k, .i .i64 l[j].n, .s l[j].s] := by rw [mkUp_get hj]; simp [hes, vC]
      generalize hkk : mkK mt es k j = kk
      obtain ⟨a1, a2, r1, m1⟩ := row.store (t' := .i .i64 kk) (v' := .int .i64 kk) hn1 hp hul (c := 0) (by omega) (fun w q => .i _ _)
      have hn2 := m1.nmd hn1
      obtain ⟨b1, b2, r2, m2⟩ := r1.store (t' := .i .i64 (wrap64 (kk + 1))) (v' := .int .i64 (wrap64 (kk + 1))) hn2 hp (i := j) (by simpa using hul) (c := 1) (by omega) (fun w q => .i _ _)
      have hn3 := m2.nmd hn2
      have mm := (hmv.trans m1 (List.prefix_refl _)).trans m2 (List.prefix_refl _)
      have hlt3 : ∀ b x, S b x → b < ((wr.setCell ⟨B, off + j * 3 + 0, none⟩ (.int .i64 kk)).setCell ⟨B, off + j * 3 + 1, none⟩ (.int .i64 (wrap64 (kk + 1)))).heap.size := fun b x h => Nat.lt_of_lt_of_le (hlt b x h) mm.size
      refine ⟨_, _, a1, a2, b1, b2, (ht _ _).mono ?_⟩
      rintro e w' ⟨rfl, hb⟩
      have r3 := r2.below hlt3 hb
      have m3 : Mv p _ S w' := Mv.below hn3 hlt3 hnm hb
      have hn4 := m3.nmd hn3
      obtain ⟨c1, c2, r4, m4⟩ := r3.store (t' := .s (mt (wrap64 (wrap64 (kk + 1) + 1)))) (v' := .string (mt (wrap64 (wrap64 (kk + 1) + 1)))) hn4 hp (i := j) (by simpa using hul) (c := 2) (by omega) (fun w q => .s _)
      have hes' : es[j] = [.i .i64 l[j].k, .i .i64 l[j].n, .s l[j].s] := by simp [hes, vC]
      have hfin : mkUp mt es k (j + 1) = (mkUp mt es k j).set j [.i .i64 kk, .i .i64 (wrap64 (kk + 1)), .s (mt (wrap64 (wrap64 (kk + 1) + 1)))] := by
        rw [← mkUp_succ hj, hkk, hes']
        simp only [mkCs, mkT, wrap64_eq]
      simp only [List.getElem_set_self, List.set_set, hE, List.set_cons_zero, List.set_cons_succ] at r4
      rw [← hfin] at r4
      exact ⟨_, _, rfl, c1, c2, _, r4, by rw [mkK_succ hj, hkk, hes']; simp only [mkCs, mkT, wrap64_eq], (mm.trans m3 (List.prefix_refl _)).trans m4 (List.prefix_refl _)⟩
    · rintro e w' ⟨k', rfl, vs, row', rfl, hmv⟩
      rw [mkK_all]
      refine ⟨rfl, ?_, hmv⟩
      rw [mkUp_all] at row'
      have := row'.to (cap := cap) h0 (by rw [mkEs_len]; exact hcap)
      rwa [mkEs_len] at this
theorem mok_CountedS {mt : Int → ByteArray} (ht : TxtOk mt) : MOk mt Tryz.prog 72 fun es => ∃ l : List C, es = l.map cC ∧ l.length ≤ 1099511627776 ∧ ∀ c ∈ l, c.row.length ≤ 1099511627776 := by
  intro w S p es v k hp hn hlt hnm ⟨l, hes, hll, hlr⟩ hr
  by_cases he : es = []
  · subst he
    have hv : ∃ a cap, v = .slice a 0 cap := by
      cases hr with
      | nil _ a cap => exact ⟨a, cap, rfl⟩
      | sl _ _ B off m cap vs => exact ⟨_, _, rfl⟩
    obtain ⟨a, cap, rfl⟩ := hv
    refine (raw_nil1 w a cap k).mono ?_
    rintro e w' ⟨rfl, rfl⟩
    exact ⟨rfl, hr, .refl hn⟩
  · obtain ⟨B, off, m, cap, vs0, rfl, hcap, h0, row⟩ := Row.of he hr
    have hel : es.length = l.length := by rw [hes]; simp
    have hpos : 0 < es.length := List.length_pos_iff.2 he
    obtain rfl : m = 2 := by
      have := row.hm 0 hpos
      rw [← this]
      simp [hes, cC]
    refine (raw_CountedS rfl w B off es.length cap (by omega) k (fun j kk wr => ∃ vs, Row wr S p B off 2 (mkUp mt es k j) vs ∧ kk = mkK mt es k j ∧ Mv p w S wr) ⟨vs0, by rw [mkUp_zero]; exact row, rfl, .refl hn⟩ ?_).mono ?_
    · rintro j kk wr hj ⟨vs, row, rfl, hmv⟩
      have hn1 := hmv.nmd hn
      have hlt1 : ∀ b x, S b x → b < wr.heap.size := fun b x h => Nat.lt_of_lt_of_le (hlt b x h) hmv.size
      have hul : j < (mkUp mt es k j).length := by rw [mkUp_len]; exact hj
      have hes' : es[j] = [.sl .any (l[j].row.map vC), .i .i64 l[j].n] := by simp [hes, cC]
      have hE : (mkUp mt es k j)[j] = [.sl .any (l[j].row.map vC), .i .i64 l[j].n] := by rw [mkUp_get hj, hes']
      generalize hkk : mkK mt es k j = kk
      have hrow := row.rep j 0 hul (by rw [hE]; simp)
      have hg : (mkUp mt es k j)[j][0]'(by rw [hE]; simp) = .sl .any (l[j].row.map vC) := by simp only [hE]; rfl
      rw [hg] at hrow
      have hsub := mok_ValueS ht wr S (p ++ [j] ++ [0]) (l[j].row.map vC) (vs j 0) kk (by simp) hn1 hlt1 hnm ⟨_, rfl, hlr _ (List.getElem_mem _)⟩ hrow
      refine ⟨_, row.cell j 0 hul (by omega), hsub.mono ?_⟩
      rintro e w1 ⟨rfl, hr1, m1⟩
      have r1 := row.sub hn1 hp hul (c := 0) (by omega) (t' := .sl .any (mkEs mt (l[j].row.map vC) kk).1) m1 hlt1 hnm hr1
      have hm1 : Mv p w S w1 := hmv.trans m1 ((List.prefix_append p [j]).trans (List.prefix_append _ _))
      have hn2 := m1.nmd hn1
      obtain ⟨c1, c2, r4, m4⟩ := r1.store (t' := .i .i64 (mkEs mt (l[j].row.map vC) kk).2) (v' := .int .i64 (mkEs mt (l[j].row.map vC) kk).2) hn2 hp (i := j) (by simpa using hul) (c := 1) (by omega) (fun w q => .i _ _)
      have hfin : mkUp mt es k (j + 1) = (mkUp mt es k j).set j [.sl .any (mkEs mt (l[j].row.map vC) kk).1, .i .i64 (mkEs mt (l[j].row.map vC) kk).2] := by
        rw [← mkUp_succ hj, hkk, hes']
        simp only [mkCs, mkT, wrap64_eq]
      simp only [List.getElem_set_self, List.set_set, hE, List.set_cons_zero, List.set_cons_succ] at r4
      rw [← hfin] at r4
      exact ⟨_, _, rfl, c1, c2, _, r4, by rw [mkK_succ hj, hkk, hes']; simp only [mkCs, mkT, wrap64_eq], hm1.trans m4 (List.prefix_refl _)⟩
    · rintro e w' ⟨k', rfl, vs, row', rfl, hmv⟩
      rw [mkK_all]
      refine ⟨rfl, ?_, hmv⟩
      rw [mkUp_all] at row'
      have := row'.to (cap := cap) h0 (by rw [mkEs_len]; exact hcap)
      rwa [mkEs_len] at this
end Go.Av
end

section
namespace Go.Av
open Go.Proofs Go.RowKit
set_option linter.unusedVariables false
theorem raw_RelS (w : World) (B off len cap : Nat) (hlen : len ≤ 1099511627776) (k : Int) (I : Nat → Int → World → Prop) (h0 : I 0 k w)
   (hc : ∀ j kk w, j < len → I j kk w → Calls Tryz.prog 43 #[.int .i64 kk] w fun e w' => ∃ s u0 u1 vr, e = .returned (.string s) ∧ w'.cell? ⟨B, off + j * 3, none⟩ = some u0 ∧ w'.frozen? ⟨B, off + j * 3, none⟩ = false ∧
      (w'.setCell ⟨B, off + j * 3, none⟩ (.string s)).cell? ⟨B, off + j * 3 + 1, none⟩ = some u1 ∧ (w'.setCell ⟨B, off + j * 3, none⟩ (.string s)).frozen? ⟨B, off + j * 3 + 1, none⟩ = false ∧
      ((w'.setCell ⟨B, off + j * 3, none⟩ (.string s)).setCell ⟨B, off + j * 3 + 1, none⟩ (.int .i64 (wrap64 (kk + 1)))).cell? ⟨B, off + j * 3 + 2, none⟩ = some vr ∧
      Calls Tryz.prog 72 #[vr, .int .i64 (wrap64 (wrap64 (kk + 1) + 1))] ((w'.setCell ⟨B, off + j * 3, none⟩ (.string s)).setCell ⟨B, off + j * 3 + 1, none⟩ (.int .i64 (wrap64 (kk + 1)))) fun e w3 => ∃ k', e = .returned (.int .i64 k') ∧ I (j + 1) k' w3) :
   Calls Tryz.prog 39 #[.slice (some ⟨B, off, none⟩) len cap, .int .i64 k] w fun e w' => ∃ k', e = .returned (.int .i64 k') ∧ I len k' w' := by
  go_enter Tryz.func39, Tryz.ntmps39
  go_wp2
  go_loopw [1, 5] (fun kv i wr => ∃ (j : Nat) (kk : Int), j ≤ len ∧ i = .int .i64 j ∧ kv = .int .i64 kk ∧ I j kk wr) (fun _ i _ => len - (Go.RowKit.intOf i).toNat)
  case atStart => exact ⟨0, k, Nat.zero_le _, rfl, rfl, h0⟩
  case round =>
    obtain ⟨j, kk, hj, rfl, rfl, hi⟩ := hrel
    rcases Nat.lt_or_ge j len with hjl | hjl
    · have h1 := hc j kk wr hjl hi
      clear hc hi h0
      go_wp2_with (first | (go_at_call 43; refine h1.mono ?_; rintro e w' ⟨s, u0, u1, vr, rfl, h2, h3, h4, h5, h6, h7⟩) | (go_at_call 72; refine h7.mono ?_; rintro e w3 ⟨k', rfl, h8⟩))
      refine ⟨⟨j + 1, _, hjl, by first | rfl | simp, rfl, h8⟩, by simp only [Go.RowKit.intOf]; omega⟩
    · obtain rfl : j = len := by omega
      clear hc h0
      go_wp2
      go_ret
      exact ⟨kk, rfl, hi⟩
theorem raw_nil3 (w : World) (a : Option Addr) (cap : Nat) (k : Int) : Calls Tryz.prog 39 #[.slice a 0 cap, .int .i64 k] w fun e w' => e = .returned (.int .i64 k) ∧ w' = w := by
  go_enter Tryz.func39, Tryz.ntmps39
  go_wp2
  go_loopw [1, 5] (fun kv i wr => i = .int .i64 0 ∧ kv = .int .i64 k ∧ wr = w) (fun _ i _ => 0)
  case atStart => exact ⟨rfl, rfl, rfl⟩
  case round =>
    obtain ⟨rfl, rfl, rfl⟩ := hrel
    go_wp2
    go_ret
    exact ⟨rfl, rfl⟩
end Go.Av
end

section
namespace Go.Av
open Go.Proofs Go.RowKit
set_option linter.unusedVariables false
theorem mok_RelS {mt : Int → ByteArray} (ht : TxtOk mt) : MOk mt Tryz.prog 39 fun es => ∃ l : List R, es = l.map rC ∧ l.length ≤ 1099511627776 ∧ ∀ r ∈ l, r.bag.rows.length ≤ 1099511627776 ∧ ∀ c ∈ r.bag.rows, c.row.length ≤ 1099511627776 := by
  intro w S p es v k hp hn hlt hnm ⟨l, hes, hll, hlr⟩ hr
  by_cases he : es = []
  · subst he
    have hv : ∃ a cap, v = .slice a 0 cap := by
      cases hr with
      | nil _ a cap => exact ⟨a, cap, rfl⟩
      | sl _ _ B off m cap vs => exact ⟨_, _, rfl⟩
    obtain ⟨a, cap, rfl⟩ := hv
    refine (raw_nil3 w a cap k).mono ?_
    rintro e w' ⟨rfl, rfl⟩
    exact ⟨rfl, hr, .refl hn⟩
  · obtain ⟨B, off, m, cap, vs0, rfl, hcap, h0, row⟩ := Row.of he hr
    have hel : es.length = l.length := by rw [hes]; simp
    have hpos : 0 < es.length := List.length_pos_iff.2 he
    obtain rfl : m = 3 := by
      have := row.hm 0 hpos
      rw [← this]
      simp [hes, rC]
    refine (raw_RelS w B off es.length cap (by omega) k (fun j kk wr => ∃ vs, Row wr S p B off 3 (mkUp mt es k j) vs ∧ kk = mkK mt es k j ∧ Mv p w S wr) ⟨vs0, by rw [mkUp_zero]; exact row, rfl, .refl hn⟩ ?_).mono ?_
    · rintro j kk wr hj ⟨vs, row, rfl, hmv⟩
      have hn1 := hmv.nmd hn
      have hlt1 : ∀ b x, S b x → b < wr.heap.size := fun b x h => Nat.lt_of_lt_of_le (hlt b x h) hmv.size
      have hul : j < (mkUp mt es k j).length := by rw [mkUp_len]; exact hj
      have hes' : es[j] = [.s l[j].name, .i .i64 l[j].bag.w, .sl .any (l[j].bag.rows.map cC)] := by simp [hes, rC]
      have hE : (mkUp mt es k j)[j] = [.s l[j].name, .i .i64 l[j].bag.w, .sl .any (l[j].bag.rows.map cC)] := by rw [mkUp_get hj, hes']
      generalize hkk : mkK mt es k j = kk
      refine (ht _ _).mono ?_
      rintro e w' ⟨rfl, hb⟩
      have r1 := row.below hlt1 hb
      have m1 : Mv p _ S w' := Mv.below hn1 hlt1 hnm hb
      have hn2 := m1.nmd hn1
      obtain ⟨a1, a2, r2, m2⟩ := r1.store (t' := .s (mt kk)) (v' := .string (mt kk)) hn2 hp hul (c := 0) (by omega) (fun w q => .s _)
      have hn3 := m2.nmd hn2
      obtain ⟨b1, b2, r3, m3⟩ := r2.store (t' := .i .i64 (wrap64 (kk + 1))) (v' := .int .i64 (wrap64 (kk + 1))) hn3 hp (i := j) (by simpa using hul) (c := 1) (by omega) (fun w q => .i _ _)
      have hn4 := m3.nmd hn3
      have mm := ((hmv.trans m1 (List.prefix_refl _)).trans m2 (List.prefix_refl _)).trans m3 (List.prefix_refl _)
      have hlt4 : ∀ b x, S b x → b < ((w'.setCell ⟨B, off + j * 3 + 0, none⟩ (.string (mt kk))).setCell ⟨B, off + j * 3 + 1, none⟩ (.int .i64 (wrap64 (kk + 1)))).heap.size := fun b x h => Nat.lt_of_lt_of_le (hlt b x h) mm.size
      simp only [List.getElem_set_self, List.set_set, hE, List.set_cons_zero, List.set_cons_succ] at r3
      have hul3 : j < ((mkUp mt es k j).set j [.s (mt kk), .i .i64 (wrap64 (kk + 1)), .sl .any (l[j].bag.rows.map cC)]).length := by simpa using hul
      have hrow := r3.rep j 2 hul3 (by simp)
      have hg : ((mkUp mt es k j).set j [.s (mt kk), .i .i64 (wrap64 (kk + 1)), .sl .any (l[j].bag.rows.map cC)])[j][2]'(by simp) = .sl .any (l[j].bag.rows.map cC) := by simp
      rw [hg] at hrow
      have hcell := r3.cell j 2 hul3 (by omega)
      refine ⟨_, _, _, _, rfl, a1, a2, b1, b2, hcell, ?_⟩
      have hsub := mok_CountedS ht _ S (p ++ [j] ++ [2]) (l[j].bag.rows.map cC) _ (wrap64 (wrap64 (kk + 1) + 1)) (by simp) hn4 hlt4 hnm ⟨_, rfl, (hlr _ (List.getElem_mem _)).1, (hlr _ (List.getElem_mem _)).2⟩ hrow
      refine hsub.mono ?_
      rintro e w3 ⟨rfl, hr3, m4⟩
      have r4 := r3.sub hn4 hp hul3 (c := 2) (by omega) (t' := .sl .any (mkEs mt (l[j].bag.rows.map cC) (wrap64 (wrap64 (kk + 1) + 1))).1) m4 hlt4 hnm hr3
      have hfin : mkUp mt es k (j + 1) = (mkUp mt es k j).set j [.s (mt kk), .i .i64 (wrap64 (kk + 1)), .sl .any (mkEs mt (l[j].bag.rows.map cC) (wrap64 (wrap64 (kk + 1) + 1))).1] := by
        rw [← mkUp_succ hj, hkk, hes']
        simp only [mkCs, mkT, wrap64_eq]
      simp only [List.getElem_set_self, List.set_set, List.set_cons_zero, List.set_cons_succ] at r4
      rw [← hfin] at r4
      exact ⟨_, rfl, _, r4, by rw [mkK_succ hj, hkk, hes']; simp only [mkCs, mkT, wrap64_eq], mm.trans m4 ((List.prefix_append p [j]).trans (List.prefix_append _ _))⟩
    · rintro e w' ⟨k', rfl, vs, row', rfl, hmv⟩
      rw [mkK_all]
      refine ⟨rfl, ?_, hmv⟩
      rw [mkUp_all] at row'
      have := row'.to (cap := cap) h0 (by rw [mkEs_len]; exact hcap)
      rwa [mkEs_len] at this
end Go.Av
end

section
set_option linter.unusedVariables false
set_option linter.unusedSectionVars false
namespace Go.Av
def MmT (p : Tok) (Rt : T → T → Prop) (t t' : T) : Prop := Rt t t' ∨ (t' = t ∧ SafeT p t)
mutual
def MmTV (p : Tok) (Rt : T → T → Prop) : TV → TV → Prop
  | _, .unk => True
  | .d t, .d t' => MmT p Rt t t'
  | .nl, .nl => True
  | .agg cs, .agg ds => MmL p Rt cs ds
  | .ptr k o, .ptr k' o' => k' = k ∧ o' = o
  | .own k, .own k' => k' = k
  | _, _ => False
def MmL (p : Tok) (Rt : T → T → Prop) : List TV → List TV → Prop
  | [], [] => True
  | x :: xs, y :: ys => MmTV p Rt x y ∧ MmL p Rt xs ys
  | _, _ => False
end
/-- The slots told of afterwards. -/
def MmTm (p : Tok) (Rt : T → T → Prop) (l : List (Nat × TV)) : List (Nat × TV) → Prop
  | [] => True
  | (i, y) :: r => (∃ x, lk i l = some x ∧ MmTV p Rt x y) ∧ MmTm p Rt l r
/-- The boxes told of afterwards. -/
def MmO (p : Tok) (Rt : T → T → Prop) (l : Objs) : Objs → Prop
  | [] => True
  | (i, .box ds ty) :: r => (∃ cs, lk i l = some (.box cs ty) ∧ MmL p Rt cs ds) ∧ MmO p Rt l r
  | _ => False
section
variable [Known] {P : Program} {X : Nat → Prop} {β0 : Places} {w0 w w' : World} {S0 S S' : Stable} {st st' : St} {a : Act} {β β' : Places} {p : Tok} {Rt : T → T → Prop}

theorem MmTV.ptr {k o : Nat} : MmTV p Rt (.ptr k o) (.ptr k o) := ⟨rfl, rfl⟩
theorem MmTV.keep {t : T} (h : SafeT p t) : MmTV p Rt (.d t) (.d t) := .inr ⟨rfl, h⟩
theorem MmTV.leaf {t : T} (h : tkT t = []) : MmTV p Rt (.d t) (.d t) := .keep (SafeT.leaf h)
theorem MmTV.root {t t' : T} (h : Rt t t') : MmTV p Rt (.d t) (.d t') := .inl h
theorem MmL.nil : MmL p Rt [] [] := trivial
theorem MmL.cons {x y : TV} {xs ys : List TV} (h : MmTV p Rt x y) (k : MmL p Rt xs ys) : MmL p Rt (x :: xs) (y :: ys) := ⟨h, k⟩
theorem MmTm.nil {l : List (Nat × TV)} : MmTm p Rt l [] := trivial
theorem MmTm.cons {l r : List (Nat × TV)} {i : Nat} {x y : TV} (h : lk i l = some x) (h2 : MmTV p Rt x y) (k : MmTm p Rt l r) : MmTm p Rt l ((i, y) :: r) := ⟨⟨_, h, h2⟩, k⟩
theorem MmO.nil {l : Objs} : MmO p Rt l [] := trivial
theorem MmO.cons {l r : Objs} {i : Nat} {cs ds : List TV} {ty : Option TypeId} (h : lk i l = some (.box cs ty)) (h2 : MmL p Rt cs ds) (k : MmO p Rt l r) : MmO p Rt l ((i, .box ds ty) :: r) := ⟨⟨_, h, h2⟩, k⟩
theorem MmL_get : ∀ {cs ds : List TV}, MmL p Rt cs ds → cs.length = ds.length ∧ ∀ i (hi : i < cs.length) (hj : i < ds.length), MmTV p Rt cs[i] ds[i]
  | [], [], _ => ⟨rfl, fun i hi => by cases hi⟩
  | x :: xs, y :: ys, h => by
    obtain ⟨a1, a2⟩ := MmL_get h.2
    refine ⟨by simp [a1], fun i hi hj => ?_⟩
    cases i with
    | zero => exact h.1
    | succ i => exact a2 i (by simpa using hi) (by simpa using hj)
  | [], _ :: _, h => h.elim
  | _ :: _, [], h => h.elim
theorem MmTV_rv {tv : TV} {v : Value} (hT : ∀ t t' v, MmT p Rt t t' → Rep w S t v → Rep w' S t' v) (h : RV P w S β tv v) : ∀ tv', MmTV p Rt tv tv' → RV P w' S β tv' v := by
  induction h with
  | unk v => intro tv' hm; cases tv' <;> first | exact .unk _ | exact hm.elim
  | d h => intro tv' hm; cases tv' <;> first | exact .unk _ | exact .d (hT _ _ _ hm h) | exact hm.elim
  | nl a => intro tv' hm; cases tv' <;> first | exact .unk _ | exact .nl _ | exact hm.elim
  | @agg cs vs hl h ih =>
    intro tv' hm
    cases tv' with
    | unk => exact .unk _
    | agg ds =>
      obtain ⟨a1, a2⟩ := MmL_get hm
      exact .agg (a1 ▸ hl) fun i hi hj => ih i (by omega) hj _ (a2 i (by omega) hi)
    | _ => exact hm.elim
  | tup hl h ih => intro tv' hm; cases tv' <;> first | exact .unk _ | exact hm.elim
  | ptr k off => intro tv' hm; cases tv' <;> first | exact .unk _ | (obtain ⟨rfl, rfl⟩ := hm; exact .ptr _ _) | exact hm.elim
  | own k ad had => intro tv' hm; cases tv' <;> first | exact .unk _ | (obtain rfl := hm; exact .own _ ad had) | exact hm.elim
  | ap k i f => intro tv' hm; cases tv' <;> first | exact .unk _ | exact hm.elim
  | rp hs hc hr => intro tv' hm; cases tv' <;> first | exact .unk _ | exact hm.elim
  | clo hl h ih => intro tv' hm; cases tv' <;> first | exact .unk _ | exact hm.elim
  | fn h => intro tv' hm; cases tv' <;> first | exact .unk _ | exact hm.elim
theorem MmTV_ok {q : Nat → Prop} : ∀ {tv tv' : TV}, MmTV p Rt tv tv' → tv.ok q → tv'.ok q := by
  have key : ∀ n : Nat, ∀ tv tv' : TV, SizeOf.sizeOf tv < n → MmTV p Rt tv tv' → tv.ok q → tv'.ok q := by
    intro n
    induction n with
    | zero => exact fun t _ h => absurd h (Nat.not_lt_zero _)
    | succ n ih =>
      intro tv tv' h hm ho
      cases tv' with
      | unk => trivial
      | d t => trivial
      | nl => trivial
      | agg ds =>
        cases tv with
        | agg cs =>
          obtain ⟨a1, a2⟩ := MmL_get hm
          have ho : okL q cs := ho
          show okL q ds
          rw [okL_iff]
          intro x hx
          obtain ⟨i, hi, rfl⟩ := List.mem_iff_getElem.1 hx
          exact ih _ _ (by have := List.sizeOf_lt_of_mem (List.getElem_mem (l := cs) (n := i) (by omega)); simp at h; omega) (a2 i (by omega) hi) (okL_get ho i (by omega))
        | _ => exact hm.elim
      | ptr k o =>
        cases tv with
        | ptr k' o' => obtain ⟨rfl, rfl⟩ := hm; exact ho
        | _ => exact hm.elim
      | own k =>
        cases tv with
        | own k' => obtain rfl := hm; exact ho
        | _ => exact hm.elim
      | _ => cases tv <;> exact hm.elim
  exact fun {tv tv'} => key _ tv tv' (Nat.lt_succ_self _)
theorem MmTm_lk {l : List (Nat × TV)} : ∀ {r : List (Nat × TV)} {i : Nat} {y : TV}, MmTm p Rt l r → lk i r = some y → ∃ x, lk i l = some x ∧ MmTV p Rt x y
  | [], _, _, _, h => by cases h
  | (j', y') :: r, i, y, hm, h => by
    obtain ⟨h1, h2⟩ := hm
    by_cases hij : i = j'
    · subst hij; rw [lk_cons_eq] at h; cases h; exact h1
    · rw [lk_cons_ne _ _ hij] at h; exact MmTm_lk h2 h
theorem MmO_lk {l : Objs} : ∀ {r : Objs} {i : Nat} {y : Obj}, MmO p Rt l r → lk i r = some y → ∃ cs ds ty, lk i l = some (.box cs ty) ∧ y = .box ds ty ∧ MmL p Rt cs ds
  | [], _, _, _, h => by cases h
  | (j', .box ds ty') :: r, i, y, hm, h => by
    obtain ⟨⟨cs, h1, h3⟩, h2⟩ := hm
    by_cases hij : i = j'
    · subst hij; rw [lk_cons_eq] at h; cases h; exact ⟨cs, ds, _, h1, rfl, h3⟩
    · rw [lk_cons_ne _ _ hij] at h; exact MmO_lk h2 h
  | (_, .arr _ _ _) :: _, _, _, hm, _ => by cases hm
  | (_, .fz _ _ _) :: _, _, _, hm, _ => by cases hm

theorem Sim.markedM (h : Sim P X β0 w0 S0 st a w S β) (hK : ∀ b o v, ¬ Known.k b o v) {n : Nat × Bool} (hg : st.g = some n) (hp : p ≠ []) (hm : Mv p w S w') (ht : ∀ t t' v, Rt t t' → Rep w S t v → Rep w' S t' v)
    {tm : List (Nat × TV)} {ob : Objs} (h1 : MmTm p Rt st.t tm) (h2 : MmO p Rt st.o ob) :
    Sim P X β0 w0 S0 { t := tm, o := ob, ks := st.ks, n := st.n, sz := st.sz, u := st.u, g := st.g } a w' S β := by
  have htk := h.tk
  rw [hg] at htk
  obtain ⟨n, al⟩ := n
  have hund : ∀ b, Und p S b → S.ne.t [] b ∨ ∃ q, S.ne.t q b := fun b ⟨q, g1, g2⟩ => .inr ⟨q, fun e => by subst e; exact hp (List.prefix_nil.1 g1), g2⟩
  have hst : ∀ b, Und p S b → w0.heap.size ≤ b ∧ ∀ o, S b o := fun b hu => by
    rcases hund b hu with g | ⟨q, g⟩
    · exact absurd rfl g.1
    · exact ⟨(htk.2.2.new q b g).2.1, (htk.2.2.new q b g).2.2.2⟩
  have hT : ∀ t t' v, MmT p Rt t t' → Rep w S t v → Rep w' S t' v := by
    rintro t t' v (h0 | ⟨rfl, hs⟩) hr
    · exact ht _ _ _ h0 hr
    · refine hr.same fun x hx => ?_
      obtain ⟨q, e, hq⟩ := hs x hx
      refine ⟨q, e, fun b hb => hm.block b ?_ ?_⟩
      · by_cases hq0 : q = []
        · subst hq0; obtain ⟨o, ho⟩ := (htk.2.1 b hb).2.1; exact h.bnd b o ho
        · exact h.bnd b 0 ((htk.2.2.new q b ⟨hq0, hb⟩).2.2.2 0)
      · rintro ⟨q', g1, g2⟩
        have hq'0 : q' ≠ [] := fun e => by subst e; exact hp (List.prefix_nil.1 g1)
        have : q' = q := (h.nmd hg).1.i2 q' q b hq'0 g2 hb
        subst this
        exact hq g1
  refine ⟨fun b o v hv => absurd hv (hK b o v), h.dfr, h.size, ?_, ?_, ?_, ?_, ?_, fun b x hs => Nat.lt_of_lt_of_le (h.bnd b x hs) hm.size, h.sub, h.new, ?_, Nat.le_trans h.n hm.size, h.fix, ?_, ?_⟩
  · intro i tv hl
    obtain ⟨x, g1, g2⟩ := MmTm_lk h1 hl
    obtain ⟨v, hv, hr, ho⟩ := h.tmps i x g1
    exact ⟨v, hv, MmTV_rv hT hr _ g2, MmTV_ok g2 ho⟩
  · intro k o' hl
    obtain ⟨cs, ds, ty, g1, rfl, g2⟩ := MmO_lk h2 hl
    obtain ⟨k1, k2, k3⟩ := h.objs k _ g1
    have k2 : okL (· ∈ st.ks) cs := k2
    obtain ⟨a1, a2⟩ := MmL_get g2
    refine ⟨?_, ?_, k3⟩
    · have hsep := h.sep k _ g1 rfl
      cases k1 with
      | box hv hbb hll hr hty =>
        have hb2 : w'.heap[(β k).blk]? = w.heap[(β k).blk]? := by
          refine hm.block _ (Array.getElem?_eq_some_iff.1 hbb).1 fun hu => ?_
          exact hsep _ (by simp [foot, hv]) 0 ((hst _ hu).2 0)
        exact .box hv (hb2.trans hbb) (a1 ▸ hll) (fun i hi hj => MmTV_rv hT (hr i (by omega) hj) _ (a2 i (by omega) hi)) hty
    · show okL _ _
      rw [okL_iff]
      intro x hx
      obtain ⟨i, hi, rfl⟩ := List.mem_iff_getElem.1 hx
      exact MmTV_ok (a2 i (by omega) hi) (okL_get k2 i (by omega))
  · intro k o' hl
    obtain ⟨cs, ds, ty, g1, rfl, g2⟩ := MmO_lk h2 hl
    exact fun x hx => h.own k (.box cs ty) g1 x hx
  · intro k k' ob ob' hl hl'
    obtain ⟨cs, ds, ty, g1, rfl, g2⟩ := MmO_lk h2 hl
    obtain ⟨cs', ds', ty', g1', rfl, g2'⟩ := MmO_lk h2 hl'
    exact h.inj k k' _ _ g1 g1'
  · intro k ob hl hw
    obtain ⟨cs, ds, ty, g1, rfl, g2⟩ := MmO_lk h2 hl
    exact h.sep k _ g1 rfl
  · refine ⟨hm.os.trans h.below.os, hm.tape.trans h.below.tape, hm.output.trans h.below.output, Nat.le_trans h.below.size hm.size, fun k hk hx => ?_⟩
    rw [← h.below.block k hk hx]
    exact hm.block k (Nat.lt_of_lt_of_le hk h.below.size) fun hu => by have := (hst k hu).1; omega
  · intro b z hz
    obtain ⟨b1, b2, b3, b4⟩ := h.gh b z hz
    refine ⟨?_, b2, ?_, b4⟩
    · rw [← b1]
      exact hm.block b (Array.getElem?_eq_some_iff.1 b1).1 fun hu => b2 0 ((hst b hu).2 0)
    · intro k ob hl
      obtain ⟨cs, ds, ty, g1, rfl, g2⟩ := MmO_lk h2 hl
      exact b3 k _ g1
  · show TOk X w0 S0 w' S st.g
    rw [hg]
    exact ⟨htk.1, htk.2.1, fun q b hq => let ⟨c1, c2, c3, c4⟩ := htk.2.2.new q b hq; ⟨c1, c2, hm.full q b hq.1 hq.2, c4⟩, htk.2.2.i1, htk.2.2.i2⟩

/-- A call that marks. -/
def MCallM (P : Program) (f : FuncId) (p : Tok) (Rt : T → T → Prop) (args : List TV) (k : Int) : Prop :=
  ∀ (w : World) (S : Stable) (β : Places) (vs : Array Value), Nmd w S → (∀ b x, S b x → b < w.heap.size) → (∀ q b, q ≠ [] → S.t q b → ∃ x, S b x) → args.length = vs.size →
    (∀ i (hi : i < args.length) (hj : i < vs.size), RV P w S β args[i] vs[i]) →
    Calls P f vs w fun e w' => e = .returned (.int .i64 k) ∧ Mv p w S w' ∧ ∀ t t' v, Rt t t' → Rep w S t v → Rep w' S t' v

theorem wp_markopM {o : Oper} {c : Call} {f : FuncId} {args : List TV} {k : Int} {Q : Exit → Act → World → Prop} (hK : ∀ b o v, ¬ Known.k b o v) {n : Nat × Bool} (hg : st.g = some n) (hp : p ≠ [])
    (ho : o.op = .call c) (hf : c.callee = .value (.func f)) (hpl : Plainly P f) (hargs : c.args.toList.map (evc st) = args) (hc : MCallM P f p Rt args k)
    {tm : List (Nat × TV)} {ob : Objs} (h1 : MmTm p Rt st.t tm) (h2 : MmO p Rt st.o ob) {s : St}
    (hput : put { t := tm, o := ob, ks := st.ks, n := st.n, sz := st.sz, u := st.u, g := st.g } (.d (.i .i64 k)) o.dst = some s) (h : Sim P X β0 w0 S0 st a w S β) :
    o.wp P a w (fun a' w' => SimE P X β0 w0 S0 s a' w') Q := by
  have E := evc_sound h
  have hexec : (execOp a.eval o).run P w = .ok (.enter f ((c.args.map a.eval) ++ #[])) w := by
    unfold execOp
    rw [ho]
    simp only [resolve, hf, Act.eval, Deferred.ofValue, Sem.run_bind, Sem.run_pure, Result.andThen_ok, invoke]
    rw [Array.empty_append]
    exact run_callFunc hpl
  unfold Oper.wp
  rw [hexec, Oper.upon_enter, Array.append_empty]
  obtain ⟨hn, hnm⟩ := h.nmd hg
  refine (hc w S β (c.args.map a.eval) hn h.bnd hnm (by rw [← hargs]; simp) ?_).mono ?_
  · intro i hi hj
    subst hargs
    simp only [List.getElem_map, Array.getElem_map, Array.getElem_toList]
    exact (E _).1
  · rintro e w' ⟨rfl, hm, ht⟩
    exact ⟨_, _, (h.markedM hK hg hp hm ht h1 h2).put (.d (.i _ _)) trivial hput⟩

theorem Wp.markM {C : Cfg} (hE : ∀ g h, C.E g = some h → ExtOk C.P g h) (hO : ∀ g h ins args r, C.O g = some h → h ins args = some r → m1 C g ins args r) (hK : ∀ b o v, ¬ Known.k b o v)
    {id : Nat} {l1 l2 : List Oper} {o : Oper} {c : Call} {f : FuncId} {args : List TV} {k : Int} {rest : Code} {s1 s2 s3 : St} {Q : Exit → Act → World → Prop}
    (e1 : evR C (l1 ++ o :: l2).toArray ⟨⟩ l1 ⟨⟩ st = some s1) {n : Nat × Bool} (hg : s1.g = some n) (hp : p ≠ []) (hgd : o.guard = none)
    (ho : o.op = .call c) (hf : c.callee = .value (.func f)) (hpl : Plainly C.P f) (hargs : c.args.toList.map (evc s1) = args) (hc : MCallM C.P f p Rt args k)
    {tm : List (Nat × TV)} {ob : Objs} (h1 : MmTm p Rt s1.t tm) (h2 : MmO p Rt s1.o ob)
    (hput : put { t := tm, o := ob, ks := s1.ks, n := s1.n, sz := s1.sz, u := s1.u, g := s1.g } (.d (.i .i64 k)) o.dst = some s2)
    (e2 : evR C (l1 ++ o :: l2).toArray ⟨⟩ l2 ⟨⟩ s2 = some s3) (kk : Wp C.P X β0 w0 S0 Q rest s3) : Wp C.P X β0 w0 S0 Q (.seq (.region id (l1 ++ o :: l2).toArray false) rest) st := by
  intro a w hs
  refine wp_seq (Q := Q) (wp_mono (Q := fun e a w => e = .normal ∧ SimE C.P X β0 w0 S0 s3 a w) (wp_region ?_) ?_)
  · have hsz : (l1 ++ o :: l2).toArray.size = l1.length + (l2.length + 1) := by simp
    rw [hsz, List.range_eq_range']
    refine wpR hE hO l1 0 (l2.length + 1) st s1 ⟨o :: l2, by simp⟩ e1 ?_ a w hs
    rintro a w ⟨S, β, hsim⟩
    rw [List.range'_succ, wpOps_cons]
    unfold wpOp
    have hi : (l1 ++ o :: l2).toArray[0 + l1.length]? = some o := by simp
    rw [hi]
    simp only []
    rw [if_pos (by simp [Region.wanted, hgd])]
    refine .inl (Oper.wp_mono ?_ (wp_markopM hK hg hp ho hf hpl hargs hc h1 h2 hput hsim))
    intro a w hs
    have := wpR hE hO (Q := fun e a w => e = .normal ∧ SimE C.P X β0 w0 S0 s3 a w) l2 (0 + l1.length + 1) 0 s2 s3 ⟨[], by simp [List.drop_append]⟩ e2 (fun a w hs => ⟨rfl, hs⟩) a w hs
    simpa using this
  · rintro e a' w' ⟨rfl, hs'⟩
    exact kk a' w' hs'
theorem Wp.mark4M {C : Cfg} (hE : ∀ g h, C.E g = some h → ExtOk C.P g h) (hO : ∀ g h ins args r, C.O g = some h → h ins args = some r → m1 C g ins args r) (hK : ∀ b o v, ¬ Known.k b o v)
    {id : Nat} {o1 o2 o3 : Oper} {o : Oper} {c : Call} {f : FuncId} {args : List TV} {k : Int} {rest : Code} {s1 s2 s3 : St} {Q : Exit → Act → World → Prop}
    (e1 : evR C [o1, o2, o, o3].toArray ⟨⟩ [o1, o2] ⟨⟩ st = some s1) {n : Nat × Bool} (hg : s1.g = some n) (hp : p ≠ []) (hgd : o.guard = none)
    (ho : o.op = .call c) (hf : c.callee = .value (.func f)) (hpl : Plainly C.P f) (hargs : c.args.toList.map (evc s1) = args) (hc : MCallM C.P f p Rt args k)
    {tm : List (Nat × TV)} {ob : Objs} (h1 : MmTm p Rt s1.t tm) (h2 : MmO p Rt s1.o ob)
    (hput : put { t := tm, o := ob, ks := s1.ks, n := s1.n, sz := s1.sz, u := s1.u, g := s1.g } (.d (.i .i64 k)) o.dst = some s2)
    (e2 : evR C [o1, o2, o, o3].toArray ⟨⟩ [o3] ⟨⟩ s2 = some s3) (kk : Wp C.P X β0 w0 S0 Q rest s3) : Wp C.P X β0 w0 S0 Q (.seq (.region id [o1, o2, o, o3].toArray false) rest) st :=
  Wp.markM (l1 := [o1, o2]) (l2 := [o3]) hE hO hK e1 hg hp hgd ho hf hpl hargs hc h1 h2 hput e2 kk
end
end Go.Av
end

section
namespace Go.Av
open Go.Proofs Go.RowKit
set_option linter.unusedVariables false
theorem raw_StringS (w : World) (B off len cap : Nat) (hlen : len ≤ 1099511627776) (k : Int) (I : Nat → Int → World → Prop) (h0 : I 0 k w)
   (hc : ∀ j kk w, j < len → I j kk w → Calls Tryz.prog 43 #[.int .i64 kk] w fun e w' => ∃ s u0, e = .returned (.string s) ∧ w'.cell? ⟨B, off + j, none⟩ = some u0 ∧ w'.frozen? ⟨B, off + j, none⟩ = false ∧
      I (j + 1) (wrap64 (kk + 1)) (w'.setCell ⟨B, off + j, none⟩ (.string s))) :
   Calls Tryz.prog 38 #[.slice (some ⟨B, off, none⟩) len cap, .int .i64 k] w fun e w' => ∃ k', e = .returned (.int .i64 k') ∧ I len k' w' := by
  go_enter Tryz.func38, Tryz.ntmps38
  go_wp2
  go_loopw [1, 5] (fun kv i wr => ∃ (j : Nat) (kk : Int), j ≤ len ∧ i = .int .i64 j ∧ kv = .int .i64 kk ∧ I j kk wr) (fun _ i _ => len - (Go.RowKit.intOf i).toNat)
  case atStart => exact ⟨0, k, Nat.zero_le _, rfl, rfl, h0⟩
  case round =>
    obtain ⟨j, kk, hj, rfl, rfl, hi⟩ := hrel
    rcases Nat.lt_or_ge j len with hjl | hjl
    · have h1 := hc j kk wr hjl hi
      clear hc hi h0
      go_wp2_with (first | (go_at_call 43; refine h1.mono ?_; rintro e w' ⟨s, u0, rfl, h2, h3, h4⟩))
      refine ⟨⟨j + 1, _, hjl, by first | rfl | simp, rfl, h4⟩, by simp only [Go.RowKit.intOf]; omega⟩
    · obtain rfl : j = len := by omega
      clear hc h0
      go_wp2
      go_ret
      exact ⟨kk, rfl, hi⟩
theorem raw_nilS (w : World) (a : Option Addr) (cap : Nat) (k : Int) : Calls Tryz.prog 38 #[.slice a 0 cap, .int .i64 k] w fun e w' => e = .returned (.int .i64 k) ∧ w' = w := by
  go_enter Tryz.func38, Tryz.ntmps38
  go_wp2
  go_loopw [1, 5] (fun kv i wr => i = .int .i64 0 ∧ kv = .int .i64 k ∧ wr = w) (fun _ i _ => 0)
  case atStart => exact ⟨rfl, rfl, rfl⟩
  case round =>
    obtain ⟨rfl, rfl, rfl⟩ := hrel
    go_wp2
    go_ret
    exact ⟨rfl, rfl⟩
theorem mok_StringS {mt : Int → ByteArray} (ht : TxtOk mt) : MOk mt Tryz.prog 38 fun es => ∃ l : List ByteArray, es = l.map sC ∧ l.length ≤ 1099511627776 := by
  intro w S p es v k hp hn hlt hnm ⟨l, hes, hll⟩ hr
  by_cases he : es = []
  · subst he
    have hv : ∃ a cap, v = .slice a 0 cap := by
      cases hr with
      | nil _ a cap => exact ⟨a, cap, rfl⟩
      | sl _ _ B off m cap vs => exact ⟨_, _, rfl⟩
    obtain ⟨a, cap, rfl⟩ := hv
    refine (raw_nilS w a cap k).mono ?_
    rintro e w' ⟨rfl, rfl⟩
    exact ⟨rfl, hr, .refl hn⟩
  · obtain ⟨B, off, m, cap, vs0, rfl, hcap, h0, row⟩ := Row.of he hr
    have hel : es.length = l.length := by rw [hes]; simp
    have hpos : 0 < es.length := List.length_pos_iff.2 he
    obtain rfl : m = 1 := by
      have := row.hm 0 hpos
      rw [← this]
      simp [hes, sC]
    refine (raw_StringS w B off es.length cap (by omega) k (fun j kk wr => ∃ vs, Row wr S p B off 1 (mkUp mt es k j) vs ∧ kk = mkK mt es k j ∧ Mv p w S wr) ⟨vs0, by rw [mkUp_zero]; exact row, rfl, .refl hn⟩ ?_).mono ?_
    · rintro j kk wr hj ⟨vs, row, rfl, hmv⟩
      have hn1 := hmv.nmd hn
      have hlt1 : ∀ b x, S b x → b < wr.heap.size := fun b x h => Nat.lt_of_lt_of_le (hlt b x h) hmv.size
      have hul : j < (mkUp mt es k j).length := by rw [mkUp_len]; exact hj
      have hE : (mkUp mt es k j)[j] = [.s l[j]] := by rw [mkUp_get hj]; simp [hes, sC]
      generalize hkk : mkK mt es k j = kk
      refine (ht _ _).mono ?_
      rintro e w' ⟨rfl, hb⟩
      have r1 := row.below hlt1 hb
      have m1 : Mv p _ S w' := Mv.below hn1 hlt1 hnm hb
      have hn2 := m1.nmd hn1
      obtain ⟨a1, a2, r2, m2⟩ := r1.store (t' := .s (mt kk)) (v' := .string (mt kk)) hn2 hp hul (c := 0) (by omega) (fun w q => .s _)
      have hes' : es[j] = [.s l[j]] := by simp [hes, sC]
      have hfin : mkUp mt es k (j + 1) = (mkUp mt es k j).set j [.s (mt kk)] := by
        rw [← mkUp_succ hj, hkk, hes']
        simp only [mkCs, mkT, wrap64_eq]
      simp only [hE, List.set_cons_zero] at r2
      rw [← hfin] at r2
      simp only [Nat.mul_one, Nat.add_zero] at a1 a2 r2 m2
      exact ⟨_, _, rfl, a1, a2, _, r2, by rw [mkK_succ hj, hkk, hes']; simp only [mkCs, mkT, wrap64_eq], (hmv.trans m1 (List.prefix_refl _)).trans m2 (List.prefix_refl _)⟩
    · rintro e w' ⟨k', rfl, vs, row', rfl, hmv⟩
      rw [mkK_all]
      refine ⟨rfl, ?_, hmv⟩
      rw [mkUp_all] at row'
      have := row'.to (cap := cap) h0 (by rw [mkEs_len]; exact hcap)
      rwa [mkEs_len] at this
end Go.Av
end
