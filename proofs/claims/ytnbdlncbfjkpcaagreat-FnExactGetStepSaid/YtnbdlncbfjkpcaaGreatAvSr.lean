/- What functions of this seat give. -/
import Derived.Test.YtnbdlncbfjkpcaaGreatAvSh
import Derived.RangeFuncBox
import Derived.RangeFuncLeaves
import Derived.Shelf.Abstract
import Derived.WalkKit
import Derived.OwnWalkIn
import Derived.TacticsInMore
import Derived.LoopNIn
import Derived.LoopIn
import Derived.Test.YtnbdlncbfjkpcaaGreatAvE
set_option linter.all false
set_option linter.unusedVariables false
set_option linter.unusedSimpArgs false

section
namespace Go.Proofs
open Go.RowKit Go.Maps Go.Sort Go.Shelf
variable {P : Program} {ρ : Ren}

/-- An iterator's promise, where each round keeps what lay before. -/
def SeqGivesB {α : Type} (F : Fence) (n : Nat) (P : Program) (g : Nat) (lb : Array Value) (enc : α → Value) (S : List α → Prop) (N : Nat) (w : World) : Prop :=
  ∀ (l : Nat) (J : List α → World → Prop) (W : World), Below w.heap.size w W → AbidesFrom W.heap.size J → (∀ pre W1, J pre W1 → Below w.heap.size w W1) →
    (∀ pre x W1, J pre W1 → pre.length < N → YieldAt F (n - 1) P l #[enc x] W1 fun e W' => e = .returned (.bool true) ∧ J (pre ++ [x]) W' ∧ KeepsWalks W1 W') →
    J [] W →
    CallsIn F n P g (#[.func (.yield l) #[] #[]] ++ lb) W fun e W' => (∃ v, e = .returned v) ∧ ∃ xs, S xs ∧ J xs W'

set_option maxRecDepth 100000 in
set_option maxHeartbeats 2000000 in
theorem appendSeqB (L : SlLaysZ.n11 P ρ) (F : Fence) (n : Nat) (h11 : F.fn (ρ.f 11)) (hro : F.round = none) (hn : 2 ≤ n) (g : Nat) (lb : Array Value) (hFg : F.fn g) (eg : ∀ args w, (callFunc g args).run P w = .ok (.enter g args) w)
    (S : List (List UInt8) → Prop) (N : Nat) (hN : N ≤ maxLen) (hNb : N * 16 ≤ 140737488355328) (w : World) (hseq : SeqGivesB F (n - 1) P g lb encStr S N w) :
    CallsIn F n P (ρ.f 11) #[.slice none 0 0, .func (.func g) #[] lb] w fun e w' => ∃ (v : Value) (ss : List (List UInt8)), e = .returned v ∧ S ss ∧ w'.ownsRow w.heap.size (ρ.t 26) 1 v ss.length (ss.map encStr) ∧ (v = .slice none 0 0 ↔ ss = []) ∧ Below w.heap.size w w' := by
  have h1 : 1 ≤ n := by omega
  have mixed := L.mixed; have t0 := L.t0; have a0 := L.a0; have z0 := L.z0; have v0 := L.v0; have t24 := L.t24; have a24 := L.a24; have z24 := L.z24; have v24 := L.v24; have t26 := L.t26; have a26 := L.a26; have z26 := L.z26; have v26 := L.v26; have t28 := L.t28; have a28 := L.a28; have z28 := L.z28; have v28 := L.v28
  have hne : ρ.t 24 ≠ ρ.t 26 := fun e => by have h := L.t24; rw [e, L.t26] at h; cases h
  have u0 := run_underlying L.t0; have u24 := run_underlying L.t24; have u26 := run_underlying L.t26; have u28 := run_underlying L.t28
  obtain ⟨_, _, FG⟩ := L.f11
  refine callsIn_of_wp_marks FG rfl h11 ?_ hro
  simp only [SlBodyZ.n11_ntmps ρ, List.size_toArray, List.length_cons, List.length_nil, Nat.reduceAdd, Nat.reduceSub, Array.replicate_succ, Array.replicate_zero, List.push_toArray, List.append_toArray, List.nil_append, List.cons_append]
  gi_wp2
  refine wpIn_rangeFunc ?_
  intro fn hfn
  rw [hro]
  obtain ⟨W0, hW0⟩ : ∃ W0, w.alloc (.cells #[.slice none 0 0] (ρ.t 24)) = W0 := ⟨_, rfl⟩
  have hs0 : W0.heap.size = w.heap.size + 1 := by rw [← hW0]; simp
  have hv0 : W0.heap[w.heap.size]? = some (.cells #[.slice none 0 0] (ρ.t 24) (0, 0)) := by rw [← hW0]; exact World.alloc_heap_new w _
  have hb0 : Below w.heap.size w W0 := by rw [← hW0]; exact (Below.refl _ w).alloc (Nat.le_refl _) _
  rw [hW0]
  obtain ⟨W1, hW1⟩ : ∃ W1, (W0.alloc (.deferred (some []))).alloc (.loop (AnyZ.apRec ρ fn (.func (.func g) #[] lb) w.heap.size W0.heap.size .ready none)) = W1 := ⟨_, rfl⟩
  have hold : ∀ k, k < W0.heap.size → W1.heap[k]? = W0.heap[k]? := fun k hk => by
    rw [← hW1]; exact (Below.heap_alloc _ _ k (by simp; omega)).trans (Below.heap_alloc _ _ k hk)
  have hb1 : Below w.heap.size w W1 := by rw [← hW1]; exact (hb0.alloc hb0.size _).alloc (by have := hb0.size; simp; omega) _
  have hs1 : W1.heap.size = W0.heap.size + 2 := by rw [← hW1]; simp
  have hM : AnyZ.ApAt ρ w fn (.func (.func g) #[] lb) w.heap.size (W0.heap.size + 1) W0.heap.size [] W1 :=
    ⟨⟨_, (hold w.heap.size (by omega)).trans hv0, ⟨rfl, .inl ⟨rfl, rfl⟩⟩, by simp⟩,
     by rw [← hW1]; have := World.alloc_heap_new (W0.alloc (.deferred (some []))) (.loop (AnyZ.apRec ρ fn (.func (.func g) #[] lb) w.heap.size W0.heap.size .ready none)); rwa [World.size_alloc] at this,
     by rw [← hW1]; exact (Below.heap_alloc _ _ _ (by simp)).trans (World.alloc_heap_new W0 _), hb1⟩
  refine ⟨W0.heap.size + 1, [{ target := .collected W0.heap.size, args := #[] }], W1, { target := .fn (.func g) lb, args := #[.func (.yield (W0.heap.size + 1)) #[] #[]] }, W1, g,
    #[.func (.yield (W0.heap.size + 1)) #[] #[]] ++ lb, W1, ?_, ?_, ?_, ?_, fun _ => h1, ?_⟩
  · rw [← hW1]; exact run_enterLoop_outer _ _ _ _ _
  · simp [resolve, go_sem]
  · intro f' hf'; simp [Target.leads] at hf'; subst hf'; exact hFg
  · simp [invoke, go_sem, eg]
  · refine (hseq (W0.heap.size + 1) (AnyZ.ApAt ρ w fn (.func (.func g) #[] lb) w.heap.size (W0.heap.size + 1) W0.heap.size) W1 hb1 (AnyZ.ap_abides ρ _ _ _ _ _ _ _ hb1.size) (fun _ _ h => h.below)
      (fun pre x W hJ hl => AnyZ.apYield { L with } F (n - 1 - 1) w fn hfn _ w.heap.size (W0.heap.size + 1) W0.heap.size (by omega) (by omega) (by omega) (Nat.le_refl _) (by omega) N hN hNb pre x W hJ hl) hM).mono ?_
    rintro e W2 ⟨⟨v0, rfl⟩, ss, hS, h2⟩
    obtain ⟨v, hv, hrow, hnil⟩ := h2.box
    have hend := run_endLoop (P := P) h2.L (by simp [AnyZ.apRec])
    obtain ⟨W3, hW3⟩ : ∃ W3, W2.putObj (W0.heap.size + 1) (.loop { AnyZ.apRec ρ fn (.func (.func g) #[] lb) w.heap.size W0.heap.size .ready none with state := .exhausted }) = W3 := ⟨_, rfl⟩
    rw [hW3] at hend
    have hg3 : W2.grownBy W3 (some (W0.heap.size + 1)) := by rw [← hW3]; exact grownBy_putObj_a _ _ _
    have hv3 : W3.heap[w.heap.size]? = some (.cells #[v] (ρ.t 24) (0, 0)) := by rw [← hW3]; exact (World.putObj_heap_other (by omega)).trans hv
    have hK3 : W3.heap[W0.heap.size]? = some (.deferred (some [])) := by rw [← hW3]; exact (World.putObj_heap_other (by omega)).trans h2.K
    have hrow3 := hrow.kept hg3 (ownsRow_ne_a hrow h2.L (fun cur e => by first | cases e | exact hne (Obj.cells.inj e).2.1))
    have hb3 : Below w.heap.size w W3 := h2.below.grown hg3 h2.below.size (fun k e => by cases e; omega)
    obtain ⟨hc3, hf3⟩ := cell_of_box_a hv3
    clear hW3
    refine ⟨none, W3, hend, ?_⟩
    gi_wp2
    rw [← hs0]
    refine ⟨by simp, .inl ⟨_, _, rfl, run_takeDeferred hK3, ?_⟩⟩
    exact ⟨_, results_tmp rfl _ _ _, v, ss, rfl, hS, hrow3.kept (grownBy_putObj_a _ _ _) (ownsRow_ne_a hrow3 hK3 (fun cur e => by first | cases e | exact hne (Obj.cells.inj e).2.1)), hnil, hb3.grown (grownBy_putObj_a _ _ _) hb3.size (fun k e => by cases e; omega)⟩


set_option maxRecDepth 100000 in
set_option maxHeartbeats 2000000 in
theorem collectB (L : SlLaysZ.n8 P ρ) (F : Fence) (n : Nat) (h8 : F.fn (ρ.f 8)) (h11 : F.fn (ρ.f 11)) (hro : F.round = none) (hn : 3 ≤ n) (g : Nat) (lb : Array Value) (hFg : F.fn g) (eg : ∀ args w, (callFunc g args).run P w = .ok (.enter g args) w)
    (S : List (List UInt8) → Prop) (N : Nat) (hN : N ≤ maxLen) (hNb : N * 16 ≤ 140737488355328) (w : World) (hseq : SeqGivesB F (n - 1 - 1) P g lb encStr S N w) :
    CallsIn F n P (ρ.f 8) #[.func (.func g) #[] lb] w fun e w' => ∃ (v : Value) (ss : List (List UInt8)), e = .returned v ∧ S ss ∧ w'.ownsRow w.heap.size (ρ.t 26) 1 v ss.length (ss.map encStr) ∧ (v = .slice none 0 0 ↔ ss = []) ∧ Below w.heap.size w w' := by
  have h1 : 1 ≤ n := by omega
  have e11 : ∀ args w, (callFunc (ρ.f 11) args).run P w = .ok (.enter (ρ.f 11) args) w := L.f11.enters rfl
  have mixed := L.mixed; have t0 := L.t0; have a0 := L.a0; have z0 := L.z0; have v0 := L.v0; have t24 := L.t24; have a24 := L.a24; have z24 := L.z24; have v24 := L.v24; have t26 := L.t26; have a26 := L.a26; have z26 := L.z26; have v26 := L.v26; have t28 := L.t28; have a28 := L.a28; have z28 := L.z28; have v28 := L.v28
  have u0 := run_underlying L.t0; have u24 := run_underlying L.t24; have u26 := run_underlying L.t26; have u28 := run_underlying L.t28
  obtain ⟨_, _, FG⟩ := L.f8
  refine callsIn_of_wp FG rfl h8 ?_ hro
  simp only [SlBodyZ.n8_ntmps ρ, List.size_toArray, List.length_cons, List.length_nil, Nat.reduceAdd, Nat.reduceSub, Array.replicate_succ, Array.replicate_zero, List.push_toArray, List.append_toArray, List.nil_append, List.cons_append]
  gi_wp2_with (gi_at_fn (ρ.f 11); refine (appendSeqB { L with } F (n - 1) h11 hro (by omega) g lb hFg eg S N hN hNb _ hseq).mono ?_; rintro e w' ⟨v, ss, rfl, hS, hrow, hnil, hb⟩)
  go_ret
  exact ⟨v, ss, rfl, hS, hrow, hnil, hb⟩


set_option maxRecDepth 100000 in
set_option maxHeartbeats 2000000 in
theorem sortedB (L : SlLaysZ.n6 P ρ) (F : Fence) (n : Nat) (h6 : F.fn (ρ.f 6)) (h8 : F.fn (ρ.f 8)) (h9 : F.fn (ρ.f 9)) (h11 : F.fn (ρ.f 11)) (hro : F.round = none) (hn : 4 ≤ n) (hsort : AnyZ.SortsIn P ρ F (n - 1)) (e9 : ∀ args w, (callFunc (ρ.f 9) args).run P w = .ok (.enter (ρ.f 9) args) w) (g : Nat) (lb : Array Value) (hFg : F.fn g) (eg : ∀ args w, (callFunc g args).run P w = .ok (.enter g args) w)
    (S : List (List UInt8) → Prop) (N : Nat) (hN : N ≤ maxLen) (hNb : N * 16 ≤ 140737488355328) (w : World) (hseq : SeqGivesB F (n - 1 - 1 - 1) P g lb encStr (fun xs => S xs ∧ xs.length ≤ N) N w) :
    CallsIn F n P (ρ.f 6) #[.func (.func g) #[] lb] w fun e w' => ∃ (v : Value) (ss : List (List UInt8)), e = .returned v ∧ S ss ∧
      w'.ownsRow w.heap.size (ρ.t 26) 1 v ss.length ((ss.mergeSort (fun x y => decide (x ≤ y))).map encStr) ∧ (v = .slice none 0 0 ↔ ss = []) ∧ Below w.heap.size w w' := by
  have h1 : 1 ≤ n := by omega
  have e8 : ∀ args w, (callFunc (ρ.f 8) args).run P w = .ok (.enter (ρ.f 8) args) w := L.f8.enters rfl
  have mixed := L.mixed; have t0 := L.t0; have a0 := L.a0; have z0 := L.z0; have v0 := L.v0; have t24 := L.t24; have a24 := L.a24; have z24 := L.z24; have v24 := L.v24; have t26 := L.t26; have a26 := L.a26; have z26 := L.z26; have v26 := L.v26; have t28 := L.t28; have a28 := L.a28; have z28 := L.z28; have v28 := L.v28
  have u0 := run_underlying L.t0; have u24 := run_underlying L.t24; have u26 := run_underlying L.t26; have u28 := run_underlying L.t28
  obtain ⟨_, _, FG⟩ := L.f6
  refine callsIn_of_wp FG rfl h6 ?_ hro
  simp only [SlBodyZ.n6_ntmps ρ, List.size_toArray, List.length_cons, List.length_nil, Nat.reduceAdd, Nat.reduceSub, Array.replicate_succ, Array.replicate_zero, List.push_toArray, List.append_toArray, List.nil_append, List.cons_append]
  gi_wp2_with (gi_at_fn (ρ.f 8); refine (collectB { L with } F (n - 1) h8 h11 hro (by omega) g lb hFg eg _ N hN hNb _ hseq).mono ?_; rintro e W ⟨v, ss, rfl, ⟨hS, hlen⟩, hrow, hnil, hb⟩)
  rcases hrow.2 with ⟨rfl, hz⟩ | ⟨gb, cap, cur, rfl, hbase, hgb, r1, r2, r3, r4⟩
  · -- nothing came: the nil slice is sorted and handed back
    have hss : ss = [] := List.eq_nil_of_length_eq_zero hz
    subst hss
    gi_wp2_with (gi_at_fn (ρ.f 9); refine (hsort.2 none 0 W).mono ?_; rintro e w' ⟨rfl, rfl⟩)
    go_ret
    exact ⟨.slice none 0 0, [], rfl, hS, by simpa using hrow, by simp, hb⟩
  · have hH : Holds encStr W gb 0 ss.toArray := holds_of_block hgb (by simpa using r4)
    have hgl : gb < W.heap.size := (Array.getElem?_eq_some_iff.1 hgb).1
    have hsz : ss.length < 4611686018427387904 := by omega
    have cS := hsort.1 gb 0 cap ss W hH hgl hsz
    gi_wp2_with (gi_at_fn (ρ.f 9); refine cS.mono ?_; rintro e w' ⟨rfl, nn, os, rfl⟩)
    go_ret
    exact ⟨_, ss, rfl, hS, ownsRow_sorted (by simp) hbase hgb r1 r2 r3, hnil, hb.grown (grownBy_sorted _) hb.size (fun j hj => by cases hj; exact hbase)⟩

end Go.Proofs
end

section
namespace Go.Proofs
open Go.RowKit Go.Shelf

attribute [local go_sem] Oper.semAt_some

set_option maxRecDepth 100000 in
set_option maxHeartbeats 2000000 in
theorem values1B (n l Bs n₀ b off cap : Nat) (zs : List (List UInt8)) (hn : 1 ≤ n) (hreach : zs.length * 16 ≤ 140737488355328) (hb : b < n₀) (J : List (List UInt8) → World → Prop)
    (hJ : ∀ pre W, J pre W → pre.length ≤ zs.length → ∀ j (hj : j < zs.length), W.cell? ⟨b, off + j, none⟩ = some (encStr zs[j]) ∧ W.cell? ⟨Bs, 0, none⟩ = some (.slice (some ⟨b, off, none⟩) zs.length cap))
    (hY : ∀ pre x W, J pre W → pre.length < zs.length → YieldAt Fence.wide (n - 1) Tryz.prog l #[encStr x] W fun e W' => e = .returned (.bool true) ∧ J (pre ++ [x]) W' ∧ KeepsWalks W W')
    (W : World) (hBs : W.cell? ⟨Bs, 0, none⟩ = some (.slice (some ⟨b, off, none⟩) zs.length cap)) (h0 : J [] W) :
    CallsIn Fence.wide n Tryz.prog 116 #[.func (.yield l) #[] #[], .pointer (some ⟨Bs, 0, none⟩)] W fun e W' => (∃ v, e = .returned v) ∧ J zs W' := by
  refine callsIn_of_wp Tryz.func116 rfl trivial ?_ rfl
  simp only [Tryz.ntmps116, List.size_toArray, List.length_cons, List.length_nil, Nat.reduceAdd, Nat.reduceSub, Array.replicate_succ, Array.replicate_zero, List.push_toArray, List.append_toArray, List.nil_append, List.cons_append]
  gi_wp2
  gi_loopw [7] (fun i wr => ∃ k : Nat, k ≤ zs.length ∧ i = .int .i64 k ∧ J (zs.take k) wr)
    (fun i _ => zs.length - (intOf i).toNat)
  case atStart => exact ⟨0, Nat.zero_le _, rfl, h0⟩
  case round =>
    obtain ⟨k, hk, rfl, hJs⟩ := hrel
    by_cases hlt : k < zs.length
    · obtain ⟨fn, tmps, assign, body, hy, hR⟩ := hY _ zs[k] wr hJs (by rw [List.length_take]; omega)
      have hcx : wr.cell? ⟨b, off + k, none⟩ = some (encStr zs[k]) := (hJ _ _ hJs (by rw [List.length_take]; omega) k hlt).1
      unfold encStr at hcx hy
      gi_wp2
      refine hR.mono ?_
      rintro e W3 ⟨rfl, hJ3, _⟩
      gi_wp2
      go_roundw
      case rel => exact ⟨k + 1, by omega, by simp, by rw [List.take_succ_eq_append_getElem hlt]; exact hJ3⟩
      case measure => simp [intOf]; omega
    · obtain rfl : k = zs.length := by omega
      gi_wp2
      go_end0
      exact ⟨⟨_, rfl⟩, by rw [List.take_length] at hJs; exact hJs⟩

set_option maxRecDepth 100000 in
set_option maxHeartbeats 1000000 in
theorem values1B_nil (n l Bs cap : Nat) (a : Option Addr) (J : List (List UInt8) → World → Prop) (W : World) (hBs : W.cell? ⟨Bs, 0, none⟩ = some (.slice a 0 cap)) (h0 : J [] W) :
    CallsIn Fence.wide n Tryz.prog 116 #[.func (.yield l) #[] #[], .pointer (some ⟨Bs, 0, none⟩)] W fun e W' => (∃ v, e = .returned v) ∧ J [] W' := by
  refine callsIn_of_wp Tryz.func116 rfl trivial ?_ rfl
  simp only [Tryz.ntmps116, List.size_toArray, List.length_cons, List.length_nil, Nat.reduceAdd, Nat.reduceSub, Array.replicate_succ, Array.replicate_zero, List.push_toArray, List.append_toArray, List.nil_append, List.cons_append]
  gi_wp2
  gi_loopw [7] (fun i wr => i = .int .i64 0 ∧ J [] wr) (fun _ _ => 0)
  case atStart => exact ⟨rfl, h0⟩
  case round =>
    obtain ⟨rfl, hJs⟩ := hrel
    gi_wp2
    go_end0
    exact ⟨⟨_, rfl⟩, hJs⟩
end Go.Proofs
end

section
set_option linter.unusedVariables false
namespace Go.Av
open Go.Proofs Go.RowKit Go.Sort Go.Shelf

theorem sortsIn (m : Nat) : AnyZ.SortsIn Tryz.prog Tryz.sortedA_ren Fence.wide m :=
  ⟨fun blk off cap ss W hH hblk hsz => callsIn_wide.2 (AnyM.slices_Sort_string Tryz.sortA blk off cap ss W hH hblk hsz),
   fun p cap W => callsIn_wide.2 (AnyM.slices_Sort_string_none Tryz.sortA p cap W)⟩

theorem sorted_ac [Known] (l : List ByteArray) (hl : l.length ≤ 1099511627776) :
    AC Tryz.prog 90 [(0, .box [.d (.sl .any (l.map fun s => [.s s]))])] [.clo 116 [.ptr 0 0]] fun _ _ r o =>
      r = .own 40 ∧ o = [(40, .arr .any 1 ((sStr l).map fun s => [.s s]))] := by
  intro w S β vs _ hbS hkn hvl hr _ hth
  have h1 := hr 0 (by simp) (by rw [← hvl]; simp)
  have hob := (hth.objs 0 _ (lk_cons_eq _ _ _)).1
  have hvs : ∀ v, vs[0]'(by rw [← hvl]; simp) = v → vs = #[v] := by
    intro v e
    apply Array.ext
    · simpa using hvl.symm
    · intro i hi hj
      have : i = 0 := by simpa using hj
      subst this
      simpa using e
  simp only [List.getElem_cons_zero] at h1
  generalize hv : vs[0]'(by rw [← hvl]; simp) = v at h1
  have hvs := hvs v hv
  clear hv
  subst hvs
  have ho : ∀ k ob, lk k [(0, Obj.box [TV.d (.sl .any (l.map fun s => [T.s s]))])] = some ob → k = 0 ∧ ob = .box [TV.d (.sl .any (l.map fun s => [T.s s]))] := by
    intro k ob hk
    by_cases hk0 : k = 0
    · subst hk0; rw [lk_cons_eq] at hk; cases hk; exact ⟨rfl, rfl⟩
    · rw [lk_cons_ne _ _ hk0] at hk; cases hk
  have ho40 : ∀ k ob, lk k [(40, Obj.arr .any 1 ((sStr l).map fun s => [T.s s]))] = some ob → k = 40 ∧ ob = .arr .any 1 ((sStr l).map fun s => [T.s s]) := by
    intro k ob hk
    by_cases hk0 : k = 40
    · subst hk0; rw [lk_cons_eq] at hk; cases hk; exact ⟨rfl, rfl⟩
    · rw [lk_cons_ne _ _ hk0] at hk; cases hk
  -- the closure and its box
  obtain ⟨lb, rfl, hlb⟩ : ∃ lb, v = .func (.func 116) #[] lb ∧ lb = #[.pointer (some ⟨(β 0).blk, 0, none⟩)] := by
    cases h1 with
    | @clo _ _ lb hl h =>
      refine ⟨lb, rfl, ?_⟩
      have hx := h 0 (by simp) (by rw [← hl]; simp)
      simp only [List.getElem_cons_zero] at hx
      generalize hy : lb[0]'(by rw [← hl]; simp) = y at hx
      cases hx
      apply Array.ext
      · simpa using hl.symm
      · intro i hi hj
        have : i = 0 := by simpa using hj
        subst this
        simpa using hy
  subst hlb
  obtain ⟨sv, hbt, hcell, hrep⟩ : ∃ sv, (β 0).blk < w.heap.size ∧ w.cell? ⟨(β 0).blk, 0, none⟩ = some sv ∧ Rep w S (.sl .any (l.map fun s => [T.s s])) sv := by
    cases hob with
    | @box _ vs e hv hb hl h =>
      have hx := h 0 (by simp) (by rw [← hl]; simp)
      refine ⟨vs[0]'(by rw [← hl]; simp), ?_, ?_, ?_⟩
      · rcases Nat.lt_or_ge (β 0).blk w.heap.size with h | h
        · exact h
        · rw [Array.getElem?_eq_none h] at hb; cases hb
      · rw [cell_of_block hb, Array.getElem?_eq_getElem (by rw [← hl]; simp)]
      · simp only [List.getElem_cons_zero] at hx
        cases hx with
        | d h => exact h
  -- the iterator's promise
  have hseq : SeqGivesB Fence.wide 4 Tryz.prog 116 #[.pointer (some ⟨(β 0).blk, 0, none⟩)] encStr (fun xs => xs = (l.map fun s => s.data.toList) ∧ xs.length ≤ l.length) l.length w := by
    intro ll J W hW _ hJB hY h0
    have hc' : W.cell? ⟨(β 0).blk, 0, none⟩ = some sv := (hW.cell (p := ⟨(β 0).blk, 0, none⟩) hbt).trans hcell
    generalize hes : (l.map fun s => [T.s s]) = es at hrep
    cases hrep with
    | nil _ a cap =>
      have : l = [] := List.map_eq_nil_iff.1 hes
      subst this
      exact (values1B_nil 4 ll _ cap a J W hc' h0).mono fun e W' ⟨he, hj⟩ => ⟨he, [], ⟨rfl, by simp⟩, hj⟩
    | sl _ _ B off m cap vv hb hnm hm0 hm hcap hs hc hr =>
      have hlen : es.length = l.length := by rw [← hes]; simp
      by_cases hz : l.length = 0
      · have : l = [] := List.eq_nil_of_length_eq_zero hz
        subst this
        have hes0 : es = [] := by rw [← hes]; rfl
        subst hes0
        exact (values1B_nil 4 ll _ cap _ J W hc' h0).mono fun e W' ⟨he, hj⟩ => ⟨he, [], ⟨rfl, by simp⟩, hj⟩
      · have hm1 : m = 1 := by
          subst hes
          have := hm ((l.map fun s => [T.s s])[0]'(by simp; omega)) (List.getElem_mem _)
          simpa using this.symm
        subst hm1
        have hcs : ∀ j (hj : j < l.length), w.cell? ⟨B, off + j, none⟩ = some (.string l[j]) := by
          intro j hj
          subst hes
          have g1 := hc j 0 (by simpa using hj) (by simp)
          have g2 := hr j 0 (by simpa using hj) (by simp)
          simp only [List.getElem_map, List.getElem_cons_zero, Nat.mul_one, Nat.add_zero] at g1 g2
          rw [g1]
          generalize vv j 0 = y at g2
          cases g2
          rfl
        have hB : B < w.heap.size := by
          subst hes
          exact hbS B _ (hs 0 0 (by simp; omega) (by simp))
        have hzl : (l.map fun s => s.data.toList).length = l.length := by simp
        rw [hlen, ← hzl] at hc'
        refine (values1B 4 ll (β 0).blk w.heap.size B off cap (l.map fun s => s.data.toList) (by omega) (by rw [hzl]; omega) hB J ?_ (by rw [hzl]; exact hY) W hc' h0).mono ?_
        · intro pre W1 hj1 _ j hj
          have hB1 := hJB pre W1 hj1
          refine ⟨?_, ?_⟩
          · rw [hB1.cell (p := ⟨B, off + j, none⟩) hB, hcs j (by rw [hzl] at hj; exact hj)]
            simp [encStr]
          · rw [hzl, ← hlen]
            exact (hB1.cell (p := ⟨(β 0).blk, 0, none⟩) hbt).trans hcell
        · rintro e W' ⟨he, hj⟩
          exact ⟨he, _, ⟨rfl, by simp⟩, hj⟩
  have hmx : maxLen = 9223372036854775807 := by decide
  have cS := sortedB (ρ := Tryz.sortedA_ren) Tryz.sortedA Fence.wide 7 trivial trivial trivial trivial rfl (by omega) (sortsIn _) (enters_of Tryz.func115 (by kernel_rfl) rfl) 116 _ trivial
    (enters_of Tryz.func116 (by kernel_rfl) rfl) (fun xs => xs = l.map fun s => s.data.toList) l.length (by omega) (by omega) w hseq
  refine (callsIn_wide.1 cS).mono ?_
  rintro e w' ⟨v, ss, rfl, rfl, hrow, hnil, hbel⟩
  have hslen : (l.map fun s => s.data.toList).length = l.length := by simp
  have hst : ∀ b x, S b x → w'.cell? ⟨b, x, none⟩ = w.cell? ⟨b, x, none⟩ := fun b x h => hbel.cell (p := ⟨b, x, none⟩) (hbS b x h)
  have fin : ∀ (pl : Pl), (pl.live = true → w.heap.size ≤ pl.blk) → RV Tryz.prog w' S (fun k => if k = 40 then pl else β k) (.own 40) v → OV Tryz.prog w' S (fun k => if k = 40 then pl else β k) 40 (.arr .any 1 ((sStr l).map fun s => [.s s])) →
      ∃ r v1 S' β' outs, Ending.returned v = .returned v1 ∧ (r = .own 40 ∧ outs = [(40, .arr .any 1 ((sStr l).map fun s => [.s s]))]) ∧ RV Tryz.prog w' S' β' r v1 ∧ r.ok (· ∈ keysOf outs) ∧
      There Tryz.prog w' S' β' outs ∧ (∀ k, k < 40 → β' k = β k) ∧ (∀ k ob, lk k outs = some ob → ∀ x, foot (β' k) x → (k < 40 ∧ (ob.writable = true → InX [(0, .box [.d (.sl .any (l.map fun s => [.s s]))])] β x)) ∨ InX [(0, .box [.d (.sl .any (l.map fun s => [.s s]))])] β x ∨ w.heap.size ≤ x) ∧
      (∀ k ob, lk k outs = some ob → k < 40 → k ∈ keysOf [(0, Obj.box [.d (.sl .any (l.map fun s => [.s s]))])]) ∧ ExtX false (InX [(0, .box [.d (.sl .any (l.map fun s => [.s s]))])] β) w S w' S' := by
    intro pl hpl hrv hov
    refine ⟨_, v, S, _, _, rfl, ⟨rfl, rfl⟩, hrv, by simp [TV.ok, keysOf], ⟨?_, ?_, ?_⟩, ?_, ?_, ?_, ⟨⟨fun _ _ h => h, fun _ _ h => .inl h, fun b o h => Nat.lt_of_lt_of_le (hbS b o h) hbel.size, ⟨hbel.os, hbel.tape, hbel.output, hbel.size, fun k hk _ => hbel.block k hk⟩⟩, fun _ _ => Iff.rfl⟩⟩
    · intro k ob hk
      obtain ⟨rfl, rfl⟩ := ho40 k ob hk
      exact ⟨hov, trivial⟩
    · intro k k' ob ob' hk hk' hne
      obtain ⟨rfl, rfl⟩ := ho40 k ob hk
      obtain ⟨rfl, rfl⟩ := ho40 k' ob' hk'
      exact absurd rfl hne
    · intro k ob hk _ x hx z hz
      obtain ⟨rfl, rfl⟩ := ho40 k ob hk
      obtain ⟨h1, h2⟩ := hx
      simp only [if_true] at h1 h2
      have := hpl h1
      have := hbS x z hz
      omega
    · intro k hk
      show (if k = 40 then pl else β k) = β k
      rw [if_neg (by omega)]
    · intro k ob hk x hx
      obtain ⟨rfl, rfl⟩ := ho40 k ob hk
      obtain ⟨h1, h2⟩ := hx
      simp only [if_true] at h1 h2
      exact .inr (.inr (by rw [h2]; exact hpl h1))
    · intro k ob hk hlt
      obtain ⟨rfl, rfl⟩ := ho40 k ob hk
      omega
  rcases hrow.2 with ⟨rfl, hz⟩ | ⟨g, cap, cur, rfl, hbase, hgb, r1, r2, r3, r4⟩
  · have : l = [] := List.eq_nil_of_length_eq_zero (by rw [← hslen]; exact hz)
    subst this
    refine fin ⟨false, 0, 0, 0, 1⟩ (fun h => by cases h) ?_ ?_
    · exact .own 40 none (fun h => by simp at h)
    · have hs0 : sStr [] = [] := by simp [sStr]
      rw [hs0]
      exact OV.arrN (by simp) (by simp) Nat.one_pos (by simp) (by simp)
  · rw [hslen] at r1
    refine fin ⟨true, g, l.length, cap, 1⟩ (fun _ => hbase) ?_ ?_
    · rw [hslen]
      exact .own 40 (some ⟨g, 0, none⟩) (fun _ => rfl)
    · refine .arr rfl hgb ⟨trivial, fun q h => by cases h⟩ rfl (by omega) (by simp [sStr_len]) (by rw [List.length_map, sStr_len]; exact r1) r2 r3 ⟨?_, ?_⟩ (fun t ht => by cases ht)
      · intro x hx
        obtain ⟨s, _, rfl⟩ := List.mem_map.1 hx
        rfl
      · intro i j hi hj
        have hi' : i < (sStr l).length := by simpa using hi
        have hj0 : j = 0 := by simpa using hj
        subst hj0
        have hi2 : i < l.length := by rw [sStr_len] at hi'; exact hi'
        have hget : cur[i]? = some (.string (sStr l)[i]) := by
          have : cur.toList[i]? = (cur.toList.take (l.length * 1))[i]? := by rw [List.getElem?_take, if_pos (by omega)]
          rw [← Array.getElem?_toList, this, ← hslen, r4]
          rw [List.getElem?_map, List.getElem?_eq_getElem (by rw [List.length_mergeSort, hslen]; exact hi2)]
          simp [sStr, encStr]
        refine ⟨_, by rw [Nat.mul_one, Nat.add_zero]; exact hget, ?_⟩
        have : ((sStr l).map fun s => [T.s s])[i][0]'hj = .s (sStr l)[i] := by simp
        rw [this]
        exact .s _

def unS : List (List T) → Option (List ByteArray)
  | [] => some []
  | [.s x] :: l => (unS l).map (x :: ·)
  | _ => none
theorem unS_map (l : List ByteArray) : unS (l.map fun s => [T.s s]) = some l := by
  induction l with
  | nil => rfl
  | cons a l ih => simp only [List.map_cons, unS, ih, Option.map_some]
theorem unS_eq : ∀ {es : List (List T)} {l : List ByteArray}, unS es = some l → es = l.map fun s => [T.s s]
  | [], l, h => by simp only [unS, Option.some.injEq] at h; subst h; rfl
  | e :: es, l, h => by
    unfold unS at h
    split at h
    · rename_i h0; cases h0
    · rename_i x l' h0
      cases h0
      cases hx : unS es with
      | none => rw [hx] at h; cases h
      | some m =>
        rw [hx] at h
        simp only [Option.map_some, Option.some.injEq] at h
        subst h
        rw [List.map_cons, ← unS_eq hx]
    · cases h
def sortedO (v : FuncId) : Objs → List TV → Option (TV × Objs)
  | [(0, .box [.d (.sl .any es)])], [.clo g [.ptr 0 0]] => ob (chk (g == v)) fun _ => ob (unS es) fun l => ob (chk (decide (l.length ≤ 1099511627776))) fun _ => some (.own 40, [(40, .arr .any 1 ((sStr l).map fun s => [.s s]))])
  | _, _ => none
theorem sortedO_ac [Known] : ∀ ins args r, sortedO 116 ins args = some r → Plainly Tryz.prog 90 ∧ AC Tryz.prog 90 ins args fun _ _ r' o' => r' = r.1 ∧ o' = r.2 := by
  intro ins args r h
  unfold sortedO at h
  split at h
  · rename_i es g
    obtain ⟨_, h1, h⟩ := ob_eq_some h
    obtain ⟨l, h2, h⟩ := ob_eq_some h
    obtain ⟨_, h3, h⟩ := ob_eq_some h
    cases h
    have h1 := eq_of_beq (chk_eq_some h1)
    have h2 := unS_eq h2
    have h3 := of_decide_eq_true (chk_eq_some h3)
    subst h1
    subst h2
    exact ⟨⟨_, Tryz.func90, rfl, by decide⟩, sorted_ac l h3⟩
  · cases h
theorem sortedO_eq (v : FuncId) (l : List ByteArray) (hl : l.length ≤ 1099511627776) : sortedO v [(0, .box [.d (.sl .any (l.map fun s => [.s s]))])] [.clo v [.ptr 0 0]] = some (.own 40, [(40, .arr .any 1 ((sStr l).map fun s => [.s s]))]) := by
  simp only [sortedO, beq_self_eq_true, unS_map, decide_eq_true hl, chk, ob, if_true]
end Go.Av
end
