/- Texts that the last one goes by: RL3, RL5, LL. -/
import Derived.Test.YtnbdlncbfjkpcaaGreatAvA9
import Derived.Test.YtnbdlncbfjkpcaaGreatAvA8
import Derived.Test.YtnbdlncbfjkpcaaGreatAvA6
set_option linter.all false
set_option linter.unusedVariables false
set_option linter.unusedSimpArgs false
section
namespace Go.Av
open Go.Proofs
set_option linter.unusedSimpArgs false
@[push_cast] theorem pre_sCs (n : Nat) (l : List ByteArray) : preEs n (l.map sC) = l.map sC := by
  induction l with
  | nil => rfl
  | cons x l ih => simp only [List.map_cons, preEs, ih]; rfl
def sZ (i : Nat) (x : Sp) : List T := [.i .i64 x.kind, .s x.name, .sl (.tok [i, 0, 0, 2]) (x.cols.map sC), .s x.query, .sl (.tok [i, 0, 0, 4]) (cnEs [i, 0, 0, 4] 0 (x.change.map rC))]
theorem sZ_nm (i : Nat) (x : Sp) : Nm [i] (tkCs (sZ i x)) := by
  have h := tk_cn (.sl .any (x.change.map rC)) [i, 0, 0, 4]
  have e : tkCs (sZ i x) = some [i, 0, 0, 2] :: tkT (T.cn [i, 0, 0, 4] (.sl .any (x.change.map rC))) := by
    simp [sZ, tkCs, tkT, T.cn, annTok, tk_sC]
  rw [e]
  refine ⟨fun y hy => ?_, List.nodup_cons.2 ⟨fun hm => ?_, h.nd⟩⟩
  · rcases List.mem_cons.1 hy with rfl | hy
    · exact ⟨_, rfl, ⟨_, rfl⟩⟩
    · obtain ⟨q, h1, h2⟩ := h.some y hy
      exact ⟨q, h1, (List.prefix_append [i] [0, 0, 4]).trans h2⟩
  · obtain ⟨q, h1, h2⟩ := h.some _ hm
    cases h1
    obtain ⟨u, hu⟩ := h2
    simp at hu
theorem er_sZ (l : List Sp) : annEs .any (l.mapIdx sZ) = l.map spC :=
  annEs_mapIdx (g := spC) (fun i x => by simp only [sZ, spC, annCs, T.ann, er_cnEs, er_rC, er_sC]) l
@[push_cast] theorem er_spC (l : List Sp) : annEs .any (l.map spC) = l.map spC := annEs_map (fun x => by simp only [spC, annCs, T.ann, er_rC, er_sC]) l
@[push_cast] theorem cn_sZ (l : List Sp) (p : Tok) (i : Nat) : cnEs p i (l.mapIdx sZ) = cnEs p i (l.map spC) := cnEs_same (by rw [er_sZ, er_spC])
theorem canOk_log (l : List Sp) (n : Nat) (hn : l.length ≤ n) (k : IntKind) (at' : Int) : canOk (.tup [.d (.sl (.tok [n]) (l.mapIdx sZ)), .d (.i k at')]) [] := by
  have h1 := tk_idx sZ l sZ_nm
  have h2 := NmI.lt sZ l sZ_nm
  have e : tkTV (.tup [.d (.sl (.tok [n]) (l.mapIdx sZ)), .d (.i k at')]) ++ tkO [] = some [n] :: tkEs (l.mapIdx sZ) := by
    simp [tkTV, tkL, tkT, annTok, tkO]
  refine ⟨⟨?_, ?_⟩, rfl, rfl, List.nodup_nil⟩
  · rw [e]
    intro hn
    rcases List.mem_cons.1 hn with hn | hn
    · cases hn
    obtain ⟨_, _, _, h3⟩ := h2 _ hn
    cases h3
  · rw [e]
    refine List.nodup_cons.2 ⟨fun hm => ?_, h1.nd⟩
    obtain ⟨k, r, h3, h4⟩ := h2 _ hm
    cases h4
    omega
theorem ev_ReadLog (l : List UInt8) (hl : l.length ≤ 100000) {xs : List Sp} {r : List UInt8} (h : LogD l xs r) :
    evF cfg 12 [] [.d (.s (bs l))] = some (.tup [.d (.sl (.tok [0, 0]) (cnEs [0, 0] 0 (xs.map spC))), .d (.i .i64 (posL xs xs.length : Nat))], []) := by
  have hz := bs_size l
  have H := Hd.mk (And.intro h hl)
  clear h hl
  have c0 : decide ((l.length : Int) > 100000) = false := decide_eq_false (by have := H.out.2; omega)
  (refine (evF_codeZ (C := cfg) (g := 12) (fn := Tryz.f12) rfl Tryz.func12 rfl (by rw [Tryz.ntmps12]; simp) (by kernel_rfl)).trans ?_; rw [Tryz.results12, Tryz.ntmps12])
  repeat' (first | with_reducible refine br_split (fun _ => ?_) (fun _ => ?_) | simp only [*, push_cast, simprocAttr] | (rw [drawC_ok]; rotate_left; decide +kernel; exact cfg_mixed))
  rw [show ({ t := [(4, .own 50), (5, .ptr 51 0)], o := [(50, .arr .any 5 []), (51, .box [.d (.s (bs l)), .d (.i .i64 0), .d (.b false)])], ks := [50, 51], n := 0, sz := 55, u := noU, g := some (0, false) } : St) = { t := [(4, .own 50), (5, .ptr 51 0)], o := [(50, .arr .any 5 ((xs.take 0).mapIdx sZ)), (51, .box [.d (.s (bs l)), .d (.i .i64 (posL xs 0 : Nat)), .d (.b false)])], ks := [50, 51], n := 0, sz := 55, u := noU, g := some (0, false) } from by rw [posL_zero]; rfl]
  rw [evM_for0 xs.length (fun i _ => { t := [(4, .own 50), (5, .ptr 51 0)], o := [(50, .arr .any 5 ((xs.take i).mapIdx sZ)), (51, .box [.d (.s (bs l)), .d (.i .i64 (posL xs i : Nat)), .d (.b false)])], ks := [50, 51], n := 0, sz := 55, u := noU, g := some (i, false) }) (fun i => some (.ret, { t := [(2, .own 50), (3, .d (.i .i64 (posL xs xs.length : Nat)))], o := [(50, .arr .any 5 (xs.mapIdx sZ))], ks := [50], n := 0, sz := 55, u := noU, g := some (xs.length + 1, false) })) ?step ?last]
  case step =>
    intro i hi ih
    obtain ⟨h, hl⟩ := H.out
    obtain ⟨hd, hp⟩ := h.drop (Nat.le_of_lt hi)
    have hR := recAt (own := psL xs[i]) (rest := (xs.drop (i + 1)).flatMap recS ++ r) (by rw [hd, flat_cons hi]) hp (by omega)
    have hok := h.ok _ (List.getElem_mem hi)
    have hs : (xs.take i).mapIdx sZ ++ [sZ i xs[i]] = (xs.take (i + 1)).mapIdx sZ := take_snocI sZ hi
    have hps := posL_succ hi
    have hxl : (xs.take i).length ≤ l.length := by
      rw [List.length_take]
      have := h.len
      omega
    have hml : ((xs.take i).mapIdx sZ).length = (xs.take i).length := by simp
    clear hd
    generalize xs[i] = x at *
    generalize posL xs i = p at *
    obtain ⟨kind, name, cols, query, change⟩ := x
    simp only [sZ] at hs
    obtain ⟨m, q, k, h0, h1, h2, h3, h7, h4, h5, h6⟩ := rec_facts hl hR
    have hv1 := hR.v1
    have hv2 := hR.v2
    have e1 := ev_size_some l (by omega) p 4 m hp h0 h7
    have e2 := ev_size_some l (by omega) m 4 q (by omega) h1 h4
    rw [beV_in (beB_len _ _) (by omega)] at e1 e2
    rw [hv1] at e1
    rw [hv2] at e2
    rw [show ((4 : Nat) : Int) = 4 from rfl] at e1 e2
    have e5 := ev_take_some l (by omega) q _ k (by omega) h2 h5
    have e3 := ev_GetStep_yes kind name cols query change hok (by omega)
    have e4 := ev_Sum (psL ⟨kind, name, cols, query, change⟩) (by omega)
    generalize psL ⟨kind, name, cols, query, change⟩ = own at *
    have hsu := sumI_le own
    have hpk : posL xs (i + 1) = k := by omega
    rw [hpk] at ih
    have w3 : IntKind.i64.wrap (sumI own) = sumI own := i64_in (by omega) (by omega)
    have c5 : (sumI own != sumI own) = false := bne_self_eq_false _
    have c6 := len_ok (n := (xs.take i).length + 1) 88 (by omega) (by omega)
    clear h hl hp hR hok hps hi h0 h7 h1 h2 h3 h4 h5 h6 hv1 hv2 hsu hpk hxl
    repeat' (first | with_reducible refine br_split (fun _ => ?_) (fun _ => ?_) | simp only [*, push_cast, simprocAttr] | (rw [drawC_ok]; rotate_left; decide +kernel; exact cfg_mixed))
  case last =>
    obtain ⟨h, hl⟩ := H.out
    obtain ⟨hd, hp⟩ := h.drop (Nat.le_refl _)
    rw [List.drop_length] at hd
    have hno : ∀ x r', OkS x → l.drop (posL xs xs.length) ≠ recS x ++ r' := by rw [hd]; exact h.no
    rw [List.take_length]
    clear hd h H
    generalize posL xs xs.length = p at *
    have e0 := ev_GetStep_no [] (by simp) (fun x hx he => by
      have h2 := congrArg List.length (he.trans (psL_eq hx))
      rw [List.length_append, beB_len, List.length_nil] at h2
      omega)
    rw [show bs [] = ⟨#[]⟩ from rfl] at e0
    cases t1 : takeP 4 (l.drop p) with
    | none =>
      have e1 := ev_size_none l (by omega) p 4 hp t1
      have e2 := ev_size_bad (bs l) p 4
      have e5 := ev_take_bad (bs l) p 0
      rw [show ((4 : Nat) : Int) = 4 from rfl] at e1
      clear hl hp hno t1
      repeat' (first | with_reducible refine br_split (fun _ => ?_) (fun _ => ?_) | simp only [*, push_cast, simprocAttr] | (rw [drawC_ok]; rotate_left; decide +kernel; exact cfg_mixed))
    | some ab =>
      obtain ⟨a, b⟩ := ab
      obtain ⟨m, hm⟩ : ∃ m, p + 4 = m := ⟨_, rfl⟩
      obtain ⟨a1, a2, a3, a4⟩ := takeP_at t1 hp
      have e1 := ev_size_some l (by omega) p 4 m hp hm t1
      rw [beV_in a4 (by omega), show ((4 : Nat) : Int) = 4 from rfl] at e1
      rw [hm] at a1 a3
      cases t2 : takeP 4 b with
      | none =>
        have e2 := ev_size_none l (by omega) m 4 a1 (by rw [← a3]; exact t2)
        have e5 := ev_take_bad (bs l) m (beV a : Nat)
        rw [show ((4 : Nat) : Int) = 4 from rfl] at e2
        clear hl hp hno t1 t2 hm a1 a2 a3 a4
        repeat' (first | with_reducible refine br_split (fun _ => ?_) (fun _ => ?_) | simp only [*, push_cast, simprocAttr] | (rw [drawC_ok]; rotate_left; decide +kernel; exact cfg_mixed))
      | some cd =>
        obtain ⟨c, d⟩ := cd
        obtain ⟨q, hq⟩ : ∃ q, m + 4 = q := ⟨_, rfl⟩
        have t2' := t2
        rw [a3] at t2'
        obtain ⟨b1, b2, b3, b4⟩ := takeP_at t2' a1
        have e2 := ev_size_some l (by omega) m 4 q a1 hq t2'
        rw [beV_in b4 (by omega), show ((4 : Nat) : Int) = 4 from rfl] at e2
        rw [hq] at b1 b3
        cases t3 : takeP (beV a) d with
        | none =>
          have e5 := ev_take_none l (by omega) q (beV a) b1 (by rw [← b3]; exact t3)
          clear hl hp hno t1 t2 t2' t3 hm hq a1 a2 a3 a4 b1 b2 b3 b4
          repeat' (first | with_reducible refine br_split (fun _ => ?_) (fun _ => ?_) | simp only [*, push_cast, simprocAttr] | (rw [drawC_ok]; rotate_left; decide +kernel; exact cfg_mixed))
        | some oe =>
          obtain ⟨own, e⟩ := oe
          have t3' := t3
          rw [b3] at t3'
          obtain ⟨g1, g2, g3, g4⟩ := takeP_at t3' b1
          obtain ⟨k, hk⟩ : ∃ k, q + beV a = k := ⟨_, rfl⟩
          have e5 := ev_take_some l (by omega) q (beV a) k b1 hk t3'
          have e4 := ev_Sum own (by omega)
          have hsu := sumI_le own
          have w3 : IntKind.i64.wrap (sumI own) = sumI own := i64_in (by omega) (by omega)
          by_cases hx : ∃ x, OkS x ∧ own = psL x
          · obtain ⟨⟨kind, name, cols, query, change⟩, hx, rfl⟩ := hx
            have d5 : (((beV c : Nat) : Int) != sumI (psL ⟨kind, name, cols, query, change⟩)) = true := by
              have : ¬ ((beV c : Nat) : Int) = sumI (psL ⟨kind, name, cols, query, change⟩) := fun hc => no_rec hno t1 t2 t3 hc _ hx rfl
              simpa using this
            have e3 := ev_GetStep_yes kind name cols query change hx (by omega)
            clear hl hp hno t1 t2 t2' t3 t3' hm hq a1 a2 a3 a4 b1 b2 b3 b4 g1 g2 g3 g4 hk hsu hx e0
            repeat' (first | with_reducible refine br_split (fun _ => ?_) (fun _ => ?_) | simp only [*, push_cast, simprocAttr] | (rw [drawC_ok]; rotate_left; decide +kernel; exact cfg_mixed))
          · have e3 := ev_GetStep_no own (by omega) (fun x h1 h2 => hx ⟨x, h1, h2⟩)
            clear hl hp hno t1 t2 t2' t3 t3' hm hq a1 a2 a3 a4 b1 b2 b3 b4 g1 g2 g3 g4 hk hsu hx e0
            repeat' (first | with_reducible refine br_split (fun _ => ?_) (fun _ => ?_) | simp only [*, push_cast, simprocAttr] | (rw [drawC_ok]; rotate_left; decide +kernel; exact cfg_mixed))
  have hcan := canOk_log xs (xs.length + 1) (by omega) .i64 (posL xs xs.length : Nat)
  clear H
  repeat' (first | with_reducible refine br_split (fun _ => ?_) (fun _ => ?_) | simp only [*, push_cast, simprocAttr] | (rw [drawC_ok]; rotate_left; decide +kernel; exact cfg_mixed))
end Go.Av
end
section
namespace Go.Av
open Go.Proofs
set_option linter.unusedSimpArgs false
theorem u8_wrap (x : Int) : IntKind.u8.wrap x = x % 256 := by
  have a : ((2 : Int) ^ IntKind.u8.bits) = 256 := by decide
  have c : IntKind.u8.signed = false := rfl
  simp only [IntKind.wrap, a, c, Bool.false_and]
  rfl
theorem xor_u8 (b : UInt8) {c : Int} (h1 : 1 ≤ c) (h2 : c ≤ 255) : ∃ b' : UInt8, b' ≠ b ∧ bitsI .xor .u8 (b.toNat : Nat) c = (b'.toNat : Nat) := by
  have hb : BitVec.ofInt 8 (b.toNat : Nat) = b.toBitVec := by
    apply BitVec.eq_of_toNat_eq
    have := b.toNat_lt
    rw [BitVec.toNat_ofInt]
    show ((b.toNat : Int) % ((2 ^ 8 : Nat) : Int)).toNat = b.toNat
    have e : ((2 ^ 8 : Nat) : Int) = 256 := rfl
    rw [e]; omega
  refine ⟨⟨BitVec.ofInt 8 (b.toNat : Nat) ^^^ BitVec.ofInt 8 c⟩, fun e => ?_, ?_⟩
  · have e1 := congrArg UInt8.toBitVec e
    rw [hb] at e1
    have e2 : b.toBitVec ^^^ BitVec.ofInt 8 c = b.toBitVec ^^^ 0#8 := by rw [BitVec.xor_zero]; exact e1
    have e3 := congrArg BitVec.toNat (bv_xor_l e2)
    rw [BitVec.toNat_ofInt] at e3
    have e4 : ((2 ^ 8 : Nat) : Int) = 256 := rfl
    rw [e4] at e3
    have e5 : (0#8).toNat = 0 := rfl
    rw [e5] at e3
    omega
  · have h := (BitVec.ofInt 8 (b.toNat : Nat) ^^^ BitVec.ofInt 8 c).isLt
    show IntKind.u8.wrap ((BitVec.ofInt 8 (b.toNat : Nat) ^^^ BitVec.ofInt 8 c).toNat : Int) = ((BitVec.ofInt 8 (b.toNat : Nat) ^^^ BitVec.ofInt 8 c).toNat : Int)
    rw [u8_wrap]
    omega
theorem get_any (u : List UInt8) (hu : u.length ≤ 1048576) : ∃ (kind : Int) (name : ByteArray) (cols : List ByteArray) (query : ByteArray) (change : List R) (ok : Bool), SmS ⟨kind, name, cols, query, change⟩ ∧
    evF cfg 6 [] [.d (.s (bs u))] = some (.tup [.agg [.d (.i .i64 kind), .d (.s name), .d (.sl .any (cols.map sC)), .d (.s query), .d (.sl .any (change.map rC))], .d (.b ok)], []) ∧
    evF cfg 7 [] [.d (.s (bs u))] = some (.tup [.agg [.d (.i .i64 kind), .d (.s name), .d (.sl (.tok [0, 0, 2]) (cols.map sC)), .d (.s query), .d (.sl (.tok [0, 0, 4]) (cnEs [0, 0, 4] 0 (change.map rC)))], .d (.b ok)], []) ∧
    (ok = true → evF cfg 18 [] [.agg [.d (.i .i64 kind), .d (.s name), .d (.sl .any (cols.map sC)), .d (.s query), .d (.sl .any (change.map rC))]] = some (.d (.s (bs u)), [])) := by
  by_cases hx : ∃ x, OkS x ∧ u = psL x
  · obtain ⟨⟨kind, name, cols, query, change⟩, hS, rfl⟩ := hx
    have hsz : szSp ⟨kind, name, cols, query, change⟩ ≤ 1048576 := Nat.le_trans (szSp_enc hS) hu
    refine ⟨kind, name, cols, query, change, true, ⟨by have := hS.ncol; omega, by have := hS.nrel; omega, fun r hr => ?_⟩, ev_sGetStep_yes kind name cols query change hS hu, ev_GetStep_yes kind name cols query change hS hu, fun _ => ev_PutStep kind name cols query change hsz⟩
    obtain ⟨e1, e2⟩ := bagOk_len (hS.rels r hr).2.1.ok
    exact ⟨by omega, fun c hc => by have := (e2 c hc).1; omega⟩
  · have hno : ∀ x, OkS x → u ≠ psL x := fun x h1 h2 => hx ⟨x, h1, h2⟩
    exact ⟨0, ⟨#[]⟩, [], ⟨#[]⟩, [], false, ⟨by simp, by simp, fun r hr => (nomatch hr)⟩, ev_sGetStep_no u hu hno, ev_GetStep_no u hu hno, fun h => (nomatch h)⟩
theorem StD.sm {x : Sp} (h : StD x) : SmS x := ⟨by have := h.ncol; omega, by have := h.nch; omega, fun r hr => ⟨by have := (h.change r hr).len; omega, fun c hc => by have := ((h.change r hr).row c hc).1; omega⟩⟩
theorem LogD.sm {l xs r} (h : LogD l xs r) (hl : l.length ≤ 100000) : ∀ x ∈ xs, SmS x := fun x hx => by
  have hS := h.ok x hx
  refine ⟨by have := hS.ncol; omega, by have := hS.nrel; omega, fun r hr => ?_⟩
  obtain ⟨e1, e2⟩ := bagOk_len (hS.rels r hr).2.1.ok
  exact ⟨by omega, fun c hc => by have := (e2 c hc).1; omega⟩
theorem spoil_at {pre t : List UInt8} (h0 : t ≠ []) (a : Nat) {c : Int} (h1 : 1 ≤ c) (h2 : c ≤ 255) : ∃ (k : Nat) (b b' : UInt8) (A C : List UInt8), t = A ++ b :: C ∧ b' ≠ b ∧ (k : Int) = ((pre ++ recB t).length : Int) - 1 - ((a % t.length : Nat) : Int) ∧ k < (pre ++ recB t).length ∧ (pre ++ recB t)[k]? = some b ∧
    bitsI .xor .u8 (b.toNat : Nat) c = (b'.toNat : Nat) ∧ (pre ++ recB t).set k b' = pre ++ (beB t.length 4 ++ (beB (sumI t).toNat 4 ++ (A ++ b' :: C))) := by
  have hp : 0 < t.length := List.length_pos_iff.2 h0
  have hm := Nat.mod_lt a hp
  generalize hq : a % t.length = q at *
  have hpl : t.length - 1 - q < t.length := by omega
  obtain ⟨b', hb', hx⟩ := xor_u8 t[t.length - 1 - q] h1 h2
  have ht : t = t.take (t.length - 1 - q) ++ t[t.length - 1 - q] :: t.drop (t.length - 1 - q + 1) := by
    rw [← List.drop_eq_getElem_cons hpl, List.take_append_drop]
  have hl := recB_len t
  refine ⟨pre.length + 8 + (t.length - 1 - q), t[t.length - 1 - q], b', _, _, ht, hb', by rw [List.length_append]; omega, by rw [List.length_append]; omega, ?_, hx, ?_⟩
  · rw [List.getElem?_append_right (by omega), recB, List.getElem?_append_right (by rw [beB_len]; omega), List.getElem?_append_right (by rw [beB_len, beB_len]; omega), beB_len, beB_len, show pre.length + 8 + (t.length - 1 - q) - pre.length - 4 - 4 = t.length - 1 - q by omega, List.getElem?_eq_getElem hpl]
  · rw [List.set_append_right _ _ (by omega), recB, List.set_append_right _ _ (by rw [beB_len]; omega), List.set_append_right _ _ (by rw [beB_len, beB_len]; omega), beB_len, beB_len, show pre.length + 8 + (t.length - 1 - q) - pre.length - 4 - 4 = t.length - 1 - q by omega]
    congr 3
    rw [List.set_eq_take_append_cons_drop, if_pos hpl]
end Go.Av
end
section
namespace Go.Av
open Go.Proofs
set_option linter.unusedSimpArgs false
set_option maxRecDepth 100000 in
set_option maxHeartbeats 8000000 in
theorem ev_FnLog (l : List Int) (hU : ∀ x ∈ l, 0 ≤ x ∧ x ≤ 255) : evF cfg 5 [] [.d (.sl .any (l.map cuC))] = some (.d (.b true), []) := by
  have hbig := ev_lawBig l
  by_cases hl : (l.length : Int) > 1048576
  · have c1 := decide_eq_true hl
    rw [c1] at hbig
    clear c1 hl hU
    (refine (evF_code (C := cfg) (g := 5) (fn := Tryz.f5) rfl Tryz.func5 rfl (by rw [Tryz.ntmps5]; simp) (by kernel_rfl) (by first | decide | simp [keysOf])).trans ?_; rw [Tryz.results5, Tryz.ntmps5])
    repeat' (first | with_reducible refine br_split (fun _ => ?_) (fun _ => ?_) | simp only [*, push_cast, simprocAttr] | (rw [drawC_ok]; rotate_left; decide +kernel; exact cfg_mixed))
  have c1 := decide_eq_false hl
  rw [c1] at hbig
  clear c1
  have hl : l.length ≤ 1048576 := by omega
  obtain ⟨_, d1, lg, ⟨kind, name, cols, query, change⟩, hlg, hD, rfl⟩ := ev_DrawAppend l hl
  obtain ⟨_, d2, u, hu, rfl⟩ := ev_DrawGetStep l hl
  obtain ⟨a3, ha3, at3⟩ := ev_at l hl hU 3 (by omega)
  obtain ⟨a4, ha4, at4⟩ := ev_at l hl hU 4 (by omega)
  rw [show ((3 : Nat) : Int) = 3 from rfl] at at3
  rw [show ((4 : Nat) : Int) = 4 from rfl] at at4
  obtain ⟨yk, yn, yc, yq, ych, ok, hsm, g1, g2, g3⟩ := get_any u (by omega)
  have s2 := ev_sameStep1 yk yn yc yq ych hsm
  obtain ⟨xs, r, hL⟩ := logD lg.length lg (Nat.le_refl _)
  have r1 := ev_ReadLog lg (by omega) hL
  have r2 := ev_sReadLog lg (by omega) hL
  have s1 := ev_sameSteps1 xs (by have := hL.len; omega) (hL.sm (by omega))
  have hsz := hD.sz
  have p1 := ev_PutStep kind name cols query change (by omega)
  have p2 := ev_sPutStep kind name cols query change (by omega)
  have k1 := ev_StepOk kind name cols query change (by omega)
  have k2 := ev_sStepOk kind name cols query change (by omega)
  have hpl := hD.psl
  have ap1 := ev_Append1 lg (psL ⟨kind, name, cols, query, change⟩) _ (by omega) (by omega) _ _ _ _ _ rfl p1 (by simp)
  have ap2 := ev_sAppend1 lg (psL ⟨kind, name, cols, query, change⟩) _ (by omega) (by omega) _ _ _ _ _ rfl p2 (by simp)
  have su1 := ev_Sum (psL ⟨kind, name, cols, query, change⟩) (by omega)
  have su2 := ev_sSum (psL ⟨kind, name, cols, query, change⟩) (by omega)
  have b1 : ((posL xs xs.length : Int) != (posL xs xs.length : Int)) = false := bne_self_eq_false _
  have b2 : (ok != ok) = false := bne_self_eq_false _
  have b3 : (appOk lg (psL ⟨kind, name, cols, query, change⟩) != appOk lg (psL ⟨kind, name, cols, query, change⟩)) = false := bne_self_eq_false _
  have b4 : (sumI (psL ⟨kind, name, cols, query, change⟩) != sumI (psL ⟨kind, name, cols, query, change⟩)) = false := bne_self_eq_false _
  have b5 : (stepOk ⟨kind, name, cols, query, change⟩ != stepOk ⟨kind, name, cols, query, change⟩) = false := bne_self_eq_false _
  obtain ⟨hd, hp⟩ := hL.drop (Nat.le_refl _)
  have hpre : (lg.take (posL xs xs.length)) = xs.flatMap recS := by
    rw [posL_all]
    conv => lhs; rw [hL.eq]
    exact List.take_left
  have hpl2 : (xs.flatMap recS).length = posL xs xs.length := (posL_all xs).symm
  have x1 := bs_extract lg 0 (posL xs xs.length)
  rw [List.drop_zero, hpre] at x1
  have hz := bs_size lg
  have e1 : decide (0 ≤ (posL xs xs.length : Int) ∧ (posL xs xs.length : Int) ≤ (lg.length : Int)) = true := decide_eq_true (by omega)
  have ap3 := ev_Append1 (xs.flatMap recS) (psL ⟨kind, name, cols, query, change⟩) _ (by omega) (by omega) _ _ _ _ _ rfl p1 (by simp)
  by_cases hT : psL ⟨kind, name, cols, query, change⟩ = []
  · have hno : appOk (xs.flatMap recS) [] = false := by simp [appOk]
    rw [hT] at p1 p2 ap1 ap2 ap3 su1 su2 b3 b4
    rw [appL_bad hno, hno] at ap3
    have hb0 : bs [] = (⟨#[]⟩ : ByteArray) := rfl
    rw [hb0] at p1 p2 su1 su2
    clear hd hpre hl hU hD hsm hL hsz hpl hp hpl2 hno hT hlg hu ha3 ha4 at3 at4
    cases ok with
    | false =>
      clear g3
      (refine (evF_code (C := cfg) (g := 5) (fn := Tryz.f5) rfl Tryz.func5 rfl (by rw [Tryz.ntmps5]; simp) (by kernel_rfl) (by first | decide | simp [keysOf])).trans ?_; rw [Tryz.results5, Tryz.ntmps5])
      repeat' (first | with_reducible refine br_split (fun _ => ?_) (fun _ => ?_) | simp only [*, push_cast, simprocAttr] | (rw [drawC_ok]; rotate_left; decide +kernel; exact cfg_mixed))
    | true =>
      have g3 := g3 rfl
      (refine (evF_code (C := cfg) (g := 5) (fn := Tryz.f5) rfl Tryz.func5 rfl (by rw [Tryz.ntmps5]; simp) (by kernel_rfl) (by first | decide | simp [keysOf])).trans ?_; rw [Tryz.results5, Tryz.ntmps5])
      repeat' (first | with_reducible refine br_split (fun _ => ?_) (fun _ => ?_) | simp only [*, push_cast, simprocAttr] | (rw [drawC_ok]; rotate_left; decide +kernel; exact cfg_mixed))
  have ho : stepOk ⟨kind, name, cols, query, change⟩ = true := by
    cases h : stepOk ⟨kind, name, cols, query, change⟩ with
    | true => rfl
    | false => exact absurd (psL_bad h) hT
  have hS := hD.okS ho
  have back := ev_GetStep_yes kind name cols query change hS (by omega)
  have s3 := ev_sameStep1 kind name cols query change hD.sm
  have hM := hL.more hS
  have hMl : (xs.flatMap recS ++ recB (psL ⟨kind, name, cols, query, change⟩)).length ≤ 100000 := by rw [List.length_append, recB_len]; omega
  have after := ev_ReadLog _ hMl hM
  have hC := hL.cut (t := psL ⟨kind, name, cols, query, change⟩) (by omega)
  have hcl : (xs.flatMap recS ++ (recB (psL ⟨kind, name, cols, query, change⟩)).take ((recB (psL ⟨kind, name, cols, query, change⟩)).length - 1)).length ≤ 100000 := by rw [List.length_append, List.length_take, recB_len]; omega
  have cut := ev_ReadLog _ hcl hC
  obtain ⟨k, b, b', A, C, ht, hbb, hk1, hk2, hk3, hk4, hk5⟩ := spoil_at (pre := xs.flatMap recS) hT a3 (c := 1 + ((a4 % 255 : Nat) : Int)) (by omega) (by omega)
  have hsp := hL.spoilt (a := A) (c := C) hbb (by rw [← ht]; omega)
  rw [← ht, ← hk5] at hsp
  have hspl : ((xs.flatMap recS ++ recB (psL ⟨kind, name, cols, query, change⟩)).set k b').length ≤ 100000 := by rw [List.length_set]; exact hMl
  have spo := ev_ReadLog _ hspl hsp
  have hend : posL (xs ++ [(⟨kind, name, cols, query, change⟩ : Sp)]) (xs ++ [(⟨kind, name, cols, query, change⟩ : Sp)]).length = (xs.flatMap recS ++ recB (psL ⟨kind, name, cols, query, change⟩)).length := by
    rw [posL_all]; simp [recS]
  rw [hend] at after
  have hok : appOk (xs.flatMap recS) (psL ⟨kind, name, cols, query, change⟩) = true := by
    simp only [appOk, Bool.and_eq_true, decide_eq_true_eq]
    exact ⟨hT, by omega⟩
  rw [appL_ok hok, hok] at ap3
  have hM0 : 0 < (xs.flatMap recS ++ recB (psL ⟨kind, name, cols, query, change⟩)).length := by rw [List.length_append, recB_len]; omega
  have hx2 := bs_extract (xs.flatMap recS ++ recB (psL ⟨kind, name, cols, query, change⟩)) 0 ((xs.flatMap recS ++ recB (psL ⟨kind, name, cols, query, change⟩)).length - 1)
  rw [List.drop_zero, List.take_append, List.take_of_length_le (by rw [List.length_append, recB_len]; omega), show (xs.flatMap recS ++ recB (psL ⟨kind, name, cols, query, change⟩)).length - 1 - (xs.flatMap recS).length = (recB (psL ⟨kind, name, cols, query, change⟩)).length - 1 by rw [List.length_append]; omega] at hx2
  have hbz := bs_size (xs.flatMap recS ++ recB (psL ⟨kind, name, cols, query, change⟩))
  have hby := bytesT_bs (xs.flatMap recS ++ recB (psL ⟨kind, name, cols, query, change⟩))
  have hst := strOf_map ((xs.flatMap recS ++ recB (psL ⟨kind, name, cols, query, change⟩)).set k b')
  rw [List.map_set] at hst
  have hne := bs_ne hT
  have htz := bs_size (psL ⟨kind, name, cols, query, change⟩)
  have hT0 : 0 < (psL ⟨kind, name, cols, query, change⟩).length := List.length_pos_iff.2 hT
  have hys : ((xs ++ [(⟨kind, name, cols, query, change⟩ : Sp)]).length : Int) = (xs.length : Int) + 1 := by rw [List.length_append]; rfl
  have hxl : xs.length ≤ 100000 := by have := hL.len; omega
  clear hd hpre hl hU hD hsm hL hsz hp hpl2 hlg hu hM hC hsp hend hcl hok hS ho hbb ht hspl hk5
  generalize xs.flatMap recS ++ (recB (psL ⟨kind, name, cols, query, change⟩)).take ((recB (psL ⟨kind, name, cols, query, change⟩)).length - 1) = CU at *
  generalize xs.flatMap recS ++ recB (psL ⟨kind, name, cols, query, change⟩) = M at *
  generalize psL ⟨kind, name, cols, query, change⟩ = T at *
  generalize xs.flatMap recS = pre at *
  generalize posL xs xs.length = en at *
  generalize xs ++ [(⟨kind, name, cols, query, change⟩ : Sp)] = ys at *
  obtain ⟨m1, hm1⟩ : ∃ m1, M.length - 1 = m1 := ⟨_, rfl⟩
  rw [hm1] at hx2
  have w1 : IntKind.i64.wrap ((M.length : Int) - 1) = (m1 : Int) := by rw [i64_in (by omega) (by omega)]; omega
  have e2 : decide (0 ≤ (m1 : Int) ∧ (m1 : Int) ≤ (M.length : Int)) = true := decide_eq_true (by omega)
  have w2 : (a3 : Int).tmod (T.length : Int) = ((a3 % T.length : Nat) : Int) := (Int.ofNat_tmod a3 T.length).symm
  have hmod := Nat.mod_lt a3 hT0
  generalize a3 % T.length = q3 at *
  have w3 : IntKind.i64.wrap ((m1 : Int) - (q3 : Int)) = (k : Int) := by rw [i64_in (by omega) (by omega)]; omega
  have c2 : decide ((T.length : Int) ≠ 0) = true := decide_eq_true (by omega)
  have c3 : decide ((T.length : Int) = 0) = false := decide_eq_false (by omega)
  have c4 := dec_lt hk2
  have c5 := dec_ltN hk2
  have gg : (M.map byC)[k]? = some [.i .u8 (b.toNat : Nat)] := by rw [List.getElem?_map, hk3]; rfl
  have w4 : (a4 : Int).tmod 255 = ((a4 % 255 : Nat) : Int) := (Int.ofNat_tmod a4 255).symm
  generalize hq4 : a4 % 255 = q4 at *
  have w5 : IntKind.i64.wrap (1 + (q4 : Int)) = 1 + (q4 : Int) := i64_in (by omega) (by omega)
  have w6 : IntKind.u8.wrap (1 + (q4 : Int)) = 1 + (q4 : Int) := by rw [u8_wrap]; omega
  have w7 : IntKind.i64.wrap ((xs.length : Int) + 1) = (xs.length : Int) + 1 := i64_in (by omega) (by omega)
  have q1 : ((M.length : Int) == (M.length : Int)) = true := beq_self_eq_true _
  have q2 : ((en : Int) == (en : Int)) = true := beq_self_eq_true _
  have q3' : ((xs.length : Int) == (xs.length : Int)) = true := beq_self_eq_true _
  have q5 : ((xs.length : Int) + 1 == (xs.length : Int) + 1) = true := beq_self_eq_true _
  have hd1 : List.drop 1 (byC b) = [] := rfl
  have han : byC b' ++ [] = byC b' := rfl
  have hmx : decide (M.length ≤ maxLen) = true := decide_eq_true (by have : maxLen = 9223372036854775807 := (by decide); omega)
  clear hMl hT hT0 hM0 hpl hk1 hk2 hk3 hq4 hmod hm1 hxl ha3 ha4
  cases ok with
  | false =>
    clear g3
    (refine (evF_code (C := cfg) (g := 5) (fn := Tryz.f5) rfl Tryz.func5 rfl (by rw [Tryz.ntmps5]; simp) (by kernel_rfl) (by first | decide | simp [keysOf])).trans ?_; rw [Tryz.results5, Tryz.ntmps5])
    repeat' (first | with_reducible refine br_split (fun _ => ?_) (fun _ => ?_) | simp (maxSteps := 10000000) only [*, push_cast, simprocAttr] | (rw [drawC_ok]; rotate_left; decide +kernel; exact cfg_mixed))
  | true =>
    have g3 := g3 rfl
    (refine (evF_code (C := cfg) (g := 5) (fn := Tryz.f5) rfl Tryz.func5 rfl (by rw [Tryz.ntmps5]; simp) (by kernel_rfl) (by first | decide | simp [keysOf])).trans ?_; rw [Tryz.results5, Tryz.ntmps5])
    repeat' (first | with_reducible refine br_split (fun _ => ?_) (fun _ => ?_) | simp (maxSteps := 10000000) only [*, push_cast, simprocAttr] | (rw [drawC_ok]; rotate_left; decide +kernel; exact cfg_mixed))
end Go.Av
end
