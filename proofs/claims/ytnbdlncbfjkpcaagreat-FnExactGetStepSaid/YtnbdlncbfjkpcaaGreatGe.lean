/- What functions of this seat give. -/
import Derived.Test.YtnbdlncbfjkpcaaGreatGd
import Derived.Test.YtnbdlncbfjkpcaaGreatAvCfg
set_option linter.all false
set_option linter.unusedVariables false
set_option linter.unusedSimpArgs false

section
/- Bytes of numbers, plain. -/
namespace Go.Av
def bs (l : List UInt8) : ByteArray := ⟨l.toArray⟩
theorem bl_bs (l : List UInt8) : bl (bs l) = l := by simp [bl, bs]
theorem bs_bl (x : ByteArray) : bs (bl x) = x := ByteArray.ext (by simp [bl, bs])
theorem bs_inj {l m : List UInt8} (h : bs l = bs m) : l = m := by rw [← bl_bs l, h, bl_bs]
theorem bs_size (l : List UInt8) : (bs l).size = l.length := by simp [bs, ByteArray.size]
theorem bs_app (l m : List UInt8) : bs l ++ bs m = bs (l ++ m) := by
  apply ByteArray.ext
  rw [ByteArray.data_append]
  simp [bs]
theorem bs_appX (l : List UInt8) (x : ByteArray) : bs l ++ x = bs (l ++ bl x) := by rw [← bs_app, bs_bl]
theorem bs_appE (l : List UInt8) : bs l ++ (⟨#[]⟩ : ByteArray) = bs l := by rw [bs_appX]; simp [bl]
theorem size_nil : (⟨#[]⟩ : ByteArray).size = 0 := rfl
theorem bl_size (x : ByteArray) : (bl x).length = x.size := Array.length_toList
theorem bytesT_bs (l : List UInt8) : bytesT (bs l) = l.map byC := by unfold bytesT bs byC; simp
theorem strOf_map (l : List UInt8) : strOf (l.map byC) = some (bs l) := by rw [← bytesT_bs, strOf_bytesT]
/-- i bytes of a number, the highest first. -/
def beB (n : Nat) : Nat → List UInt8
  | 0 => []
  | i + 1 => UInt8.ofNat (n / 256 ^ i % 256) :: beB n i
theorem beB_len (n : Nat) : ∀ i, (beB n i).length = i
  | 0 => rfl
  | i + 1 => by rw [beB, List.length_cons, beB_len]
def u64 (n : Int) : Nat := (n % 18446744073709551616).toNat
theorem u64_nn {n : Nat} (h : n < 18446744073709551616) : u64 n = n := by unfold u64; omega
/-- The byte at place i from the right. -/
theorem byte_at (n : Int) (i : Nat) (hi : i < 8) : T.i IntKind.u8 (IntKind.u8.wrap (n.fdiv (2 ^ (min (8 * (i : Int)).toNat IntKind.i64.bits)))) = .i .u8 ((UInt8.ofNat (u64 n / 256 ^ i % 256)).toNat : Nat) := by
  have hw : ∀ x : Int, IntKind.u8.wrap x = x % 256 := fun x => by
    have a : ((2 : Int) ^ IntKind.u8.bits) = 256 := by decide
    have c : IntKind.u8.signed = false := rfl
    simp only [IntKind.wrap, a, c, Bool.false_and]
    rfl
  have hb : IntKind.i64.bits = 64 := rfl
  rw [hw, hb]
  congr 1
  have e1 : ∀ m : Nat, m < 256 → (UInt8.ofNat m).toNat = m := fun m h => by simp [UInt8.toNat_ofNat']; omega
  rw [e1 _ (Nat.mod_lt _ (by omega))]
  unfold u64
  match i, hi with
  | 0, _ => simp; omega
  | 1, _ => simp only [show (min (8 * ((1 : Nat) : Int)).toNat 64) = 8 from rfl, show (2 : Int) ^ 8 = 256 from rfl, Nat.pow_one]; rw [Int.fdiv_eq_ediv_of_nonneg _ (by omega)]; omega
  | 2, _ => simp only [show (min (8 * ((2 : Nat) : Int)).toNat 64) = 16 from rfl, show (2 : Int) ^ 16 = 65536 from rfl, show 256 ^ 2 = 65536 from rfl]; rw [Int.fdiv_eq_ediv_of_nonneg _ (by omega)]; omega
  | 3, _ => simp only [show (min (8 * ((3 : Nat) : Int)).toNat 64) = 24 from rfl, show (2 : Int) ^ 24 = 16777216 from rfl, show 256 ^ 3 = 16777216 from rfl]; rw [Int.fdiv_eq_ediv_of_nonneg _ (by omega)]; omega
  | 4, _ => simp only [show (min (8 * ((4 : Nat) : Int)).toNat 64) = 32 from rfl, show (2 : Int) ^ 32 = 4294967296 from rfl, show 256 ^ 4 = 4294967296 from rfl]; rw [Int.fdiv_eq_ediv_of_nonneg _ (by omega)]; omega
  | 5, _ => simp only [show (min (8 * ((5 : Nat) : Int)).toNat 64) = 40 from rfl, show (2 : Int) ^ 40 = 1099511627776 from rfl, show 256 ^ 5 = 1099511627776 from rfl]; rw [Int.fdiv_eq_ediv_of_nonneg _ (by omega)]; omega
  | 6, _ => simp only [show (min (8 * ((6 : Nat) : Int)).toNat 64) = 48 from rfl, show (2 : Int) ^ 48 = 281474976710656 from rfl, show 256 ^ 6 = 281474976710656 from rfl]; rw [Int.fdiv_eq_ediv_of_nonneg _ (by omega)]; omega
  | 7, _ => simp only [show (min (8 * ((7 : Nat) : Int)).toNat 64) = 56 from rfl, show (2 : Int) ^ 56 = 72057594037927936 from rfl, show 256 ^ 7 = 72057594037927936 from rfl]; rw [Int.fdiv_eq_ediv_of_nonneg _ (by omega)]; omega
def dv (n i : Nat) : Nat := n / 256 ^ i
theorem dv_zero (n : Nat) : dv n 0 = n := by simp [dv]
theorem dv_succ (n i : Nat) : dv n (i + 1) = dv n i / 256 := by unfold dv; rw [Nat.pow_succ, ← Nat.div_div_eq_div_mul]
theorem dv_le (n i : Nat) : dv n i ≤ n := Nat.div_le_self ..
theorem u8_nat (x : Nat) : IntKind.u8.wrap ((x : Int) % 256) = ((UInt8.ofNat (x % 256)).toNat : Nat) := by
  have a : ((2 : Int) ^ IntKind.u8.bits) = 256 := by decide
  have c : IntKind.u8.signed = false := rfl
  have e1 : (UInt8.ofNat (x % 256)).toNat = x % 256 := by simp [UInt8.toNat_ofNat']
  simp only [IntKind.wrap, a, c, Bool.false_and, e1]
  show ((x : Int) % 256) % 256 = _
  omega
/-- The array that big fills from the right. -/
def bigE (n : Int) (m i : Nat) : List (List T) := List.replicate (m - i) [.i .u8 0] ++ (beB (u64 n) i).map byC
theorem bigE_zero (n : Int) (m : Nat) : List.replicate m [T.i .u8 0] = bigE n m 0 := by simp [bigE, beB]
theorem bigE_full (n : Int) (m : Nat) : bigE n m m = (beB (u64 n) m).map byC := by simp [bigE]
theorem bigE_len (n : Int) {m i : Nat} (h : i ≤ m) : (bigE n m i).length = m := by simp [bigE, beB_len]; omega
theorem bigE_get (n : Int) {m i : Nat} (h : i < m) : (bigE n m i)[m - 1 - i]? = some [.i .u8 0] := by
  unfold bigE
  rw [List.getElem?_append_left (by simp; omega), List.getElem?_replicate, if_pos (by omega)]
theorem bigE_set (n : Int) {m i : Nat} (h : i < m) : (bigE n m i).set (m - 1 - i) [.i .u8 ((UInt8.ofNat (u64 n / 256 ^ i % 256)).toNat : Nat)] = bigE n m (i + 1) := by
  unfold bigE
  rw [List.set_append_left _ _ (by simp; omega)]
  have e : m - i = (m - (i + 1)) + 1 := by omega
  have e2 : m - 1 - i = m - (i + 1) := by omega
  rw [e, List.replicate_succ', e2, List.set_append_right _ _ (by simp)]
  simp only [List.length_replicate, Nat.sub_self, List.set_cons_zero, beB, List.map_cons, List.append_assoc, List.cons_append, List.nil_append]
  rfl
theorem u64_lt (n : Int) : u64 n < 18446744073709551616 := by unfold u64; omega
theorem u64_wrap (n : Int) : IntKind.u64.wrap n = (u64 n : Nat) := by
  have a : ((2 : Int) ^ IntKind.u64.bits) = 18446744073709551616 := by decide
  have c : IntKind.u64.signed = false := rfl
  simp only [IntKind.wrap, a, c, Bool.false_and]
  unfold u64
  show n % 18446744073709551616 = _
  omega
theorem u8_any (n : Int) : IntKind.u8.wrap n = ((UInt8.ofNat (dv (u64 n) 0 % 256)).toNat : Nat) := by
  have a : ((2 : Int) ^ IntKind.u8.bits) = 256 := by decide
  have c : IntKind.u8.signed = false := rfl
  have e1 : ∀ x : Nat, (UInt8.ofNat (x % 256)).toNat = x % 256 := fun x => by simp [UInt8.toNat_ofNat']
  simp only [IntKind.wrap, a, c, Bool.false_and, e1, dv_zero]
  unfold u64
  show n % 256 = _
  omega
def wv (i : Nat) : Nat := 72057594037927936 / 256 ^ i
theorem wv_zero : wv 0 = 72057594037927936 := by simp [wv]
theorem wv_succ (i : Nat) : wv (i + 1) = wv i / 256 := by unfold wv; rw [Nat.pow_succ, ← Nat.div_div_eq_div_mul]
theorem wv_le (i : Nat) : wv i ≤ 72057594037927936 := Nat.div_le_self ..
theorem wv_pos {i : Nat} (h : i < 8) : 0 < wv i := by
  match i, h with
  | 0, _ => decide
  | 1, _ => decide
  | 2, _ => decide
  | 3, _ => decide
  | 4, _ => decide
  | 5, _ => decide
  | 6, _ => decide
  | 7, _ => decide
theorem wv_zeroI : (72057594037927936 : Int) = ((wv 0 : Nat) : Int) := by rw [wv_zero]; rfl
def kb (k : Int) : UInt8 := UInt8.ofNat (dv (u64 k) 0 % 256)
theorem beB1 (k : Int) : beB (u64 k) 1 = [kb k] := rfl
theorem u8_kb (k : Int) : IntKind.u8.wrap k = ((kb k).toNat : Nat) := u8_any k
/-- spec.PutValue's bytes of a number behind i rounds. -/
def arrK (k n : Int) (i : Nat) : List (List T) := (kb k :: (beB (u64 n) 8).take i).map byC
theorem arrK_zero (k n : Int) : [byC (kb k)] = arrK k n 0 := rfl
theorem arrK_full (k n : Int) : arrK k n 8 = (kb k :: beB (u64 n) 8).map byC := rfl
theorem arrK_len (k n : Int) {i : Nat} (h : i ≤ 8) : (arrK k n i).length = i + 1 := by simp [arrK, beB_len]; omega
theorem be8_take (n : Nat) {i : Nat} (h : i < 8) : (beB n 8).take i ++ [UInt8.ofNat (n / wv i % 256)] = (beB n 8).take (i + 1) := by
  match i, h with
  | 0, _ => rfl
  | 1, _ => rfl
  | 2, _ => rfl
  | 3, _ => rfl
  | 4, _ => rfl
  | 5, _ => rfl
  | 6, _ => rfl
  | 7, _ => simp [beB, wv]
theorem arrK_succ (k n : Int) {i : Nat} (h : i < 8) : arrK k n i ++ [byC (UInt8.ofNat (u64 n / wv i % 256))] = arrK k n (i + 1) := by
  unfold arrK
  rw [← be8_take (u64 n) h]
  simp
end Go.Av
end

section
namespace Go.Av
/-- The bytes of a value. -/
def pvL (v : V) : List UInt8 :=
  if valueOk v = true then beB (u64 v.k) 1 ++ (if v.k = 1 then beB (u64 v.n) 8 else if v.k = 2 then beB (u64 v.n) 1 else if v.k = 3 then beB v.s.size 1 ++ bl v.s else []) else []
theorem valueOk_size {v : V} (h : valueOk v = true) (h3 : v.k = 3) : v.s.size ≤ 100 := by
  simp [valueOk, h3] at h
  omega
def numV (n : Int) : V := ⟨1, n, ⟨#[]⟩⟩
def rowB (c : C) : List UInt8 := pvL (numV c.n) ++ c.row.flatMap pvL
def pbL (b : B) : List UInt8 := if bagOk b = true then kb b.w :: b.rows.flatMap rowB else []
end Go.Av
end

section
set_option linter.unusedVariables false
namespace Go.Av
/-- The number of bytes, the highest first. -/
def beV (l : List UInt8) : Nat := l.foldl (fun n b => 256 * n + b.toNat) 0
theorem beV_go : ∀ (l : List UInt8) (a : Nat), l.foldl (fun n b => 256 * n + b.toNat) a = a * 256 ^ l.length + beV l
  | [], a => by simp [beV]
  | b :: l, a => by
    have h1 := beV_go l (256 * a + b.toNat)
    have h2 := beV_go l (256 * 0 + b.toNat)
    simp only [beV, List.foldl_cons, List.length_cons] at h1 h2 ⊢
    rw [h1, h2, Nat.pow_succ]
    rw [Nat.mul_zero, Nat.zero_add, Nat.add_mul, Nat.add_assoc, Nat.mul_comm 256 a, Nat.mul_assoc, Nat.mul_comm 256]
theorem beV_cons (b : UInt8) (l : List UInt8) : beV (b :: l) = b.toNat * 256 ^ l.length + beV l := by
  have := beV_go l (256 * 0 + b.toNat)
  simp only [Nat.mul_zero, Nat.zero_add] at this
  simpa [beV] using this
theorem beV_snoc (l : List UInt8) (b : UInt8) : beV (l ++ [b]) = 256 * beV l + b.toNat := by
  simp [beV, List.foldl_append]
theorem beV_lt : ∀ l : List UInt8, beV l < 256 ^ l.length
  | [] => by simp [beV]
  | b :: l => by
    have h1 := beV_lt l
    have h2 := b.toNat_lt
    rw [beV_cons, List.length_cons, Nat.pow_succ]
    have h3 : b.toNat * 256 ^ l.length ≤ 255 * 256 ^ l.length := Nat.mul_le_mul_right _ (by omega)
    omega
theorem beB_add (n k : Nat) : ∀ i, beB (k * 256 ^ i + n % 256 ^ i) i = beB n i := by
  have key : ∀ i j, i ≤ j → beB (k * 256 ^ j + n % 256 ^ j) i = beB n i := by
    intro i
    induction i with
    | zero => intro j _; rfl
    | succ i ih =>
      intro j hj
      rw [beB, beB, ih j (by omega)]
      congr 2
      have e : 256 ^ j = 256 ^ i * (256 * 256 ^ (j - i - 1)) := by
        rw [show j = i + (1 + (j - i - 1)) by omega, Nat.pow_add, Nat.pow_add, Nat.pow_one]
        congr 2
        rw [show i + (1 + (j - i - 1)) - i - 1 = j - i - 1 by omega]
      have h1 : (k * 256 ^ j + n % 256 ^ j) / 256 ^ i % 256 = n / 256 ^ i % 256 := by
        rw [e, Nat.mul_comm k, Nat.mul_assoc, Nat.add_comm, Nat.add_mul_div_left _ _ (Nat.pow_pos (by omega)), Nat.mul_assoc, Nat.add_mul_mod_self_left, Nat.mod_mul_right_div_self, Nat.mod_mul_right_mod]
      exact h1
  exact fun i => key i i (Nat.le_refl _)
theorem beB_beV : ∀ l : List UInt8, beB (beV l) l.length = l
  | [] => rfl
  | b :: l => by
    have h1 := beV_lt l
    have h2 := beB_add (beV l) b.toNat l.length
    rw [Nat.mod_eq_of_lt h1, beB_beV l] at h2
    rw [beV_cons, List.length_cons, beB, h2]
    congr 1
    rw [Nat.add_comm, Nat.add_mul_div_right _ _ (Nat.pow_pos (by omega)), Nat.div_eq_of_lt h1, Nat.zero_add, Nat.mod_eq_of_lt b.toNat_lt]
    simp
theorem beV_beB (n : Nat) : ∀ m, n < 256 ^ m → beV (beB n m) = n
  | 0, h => by simp at h; subst h; rfl
  | m + 1, h => by
    rw [beB, beV_cons, beB_len]
    have h1 : n / 256 ^ m < 256 := by rw [Nat.div_lt_iff_lt_mul (Nat.pow_pos (by omega))]; rw [Nat.pow_succ, Nat.mul_comm] at h; exact h
    have h2 : beB n m = beB (n % 256 ^ m) m := by
      have := beB_add (n % 256 ^ m) (n / 256 ^ m) m
      rw [Nat.mod_mod] at this
      rw [← this]
      congr 1
      have := Nat.div_add_mod n (256 ^ m)
      rw [Nat.mul_comm] at this
      exact this.symm
    rw [h2, beV_beB (n % 256 ^ m) m (Nat.mod_lt _ (Nat.pow_pos (by omega))), Nat.mod_eq_of_lt h1]
    have e1 : (UInt8.ofNat (n / 256 ^ m)).toNat = n / 256 ^ m := by simp [UInt8.toNat_ofNat']; omega
    rw [e1, Nat.mul_comm]
    exact Nat.div_add_mod n (256 ^ m)
/-- n bytes of a list, and the rest. -/
def takeP (n : Nat) (l : List UInt8) : Option (List UInt8 × List UInt8) := if n ≤ l.length then some (l.take n, l.drop n) else none
theorem takeP_app {n : Nat} {a b : List UInt8} (h : a.length = n) : takeP n (a ++ b) = some (a, b) := by
  subst h
  simp [takeP]
theorem takeP_some {n : Nat} {l a b : List UInt8} (h : takeP n l = some (a, b)) : l = a ++ b ∧ a.length = n := by
  unfold takeP at h
  split at h
  · simp only [Option.some.injEq, Prod.mk.injEq] at h
    obtain ⟨rfl, rfl⟩ := h
    exact ⟨(List.take_append_drop _ _).symm, by simp; omega⟩
  · cases h
def numP (n : Nat) (l : List UInt8) : Option (Nat × List UInt8) := (takeP n l).map fun p => (beV p.1, p.2)
theorem numP_app {n k : Nat} {b : List UInt8} (h : k < 256 ^ n) : numP n (beB k n ++ b) = some (k, b) := by
  simp [numP, takeP_app (beB_len k n), beV_beB k n h]
theorem numP_some {n k : Nat} {l b : List UInt8} (h : numP n l = some (k, b)) : l = beB k n ++ b ∧ k < 256 ^ n := by
  unfold numP at h
  cases ht : takeP n l with
  | none => rw [ht] at h; cases h
  | some p =>
    rw [ht] at h
    simp only [Option.map_some, Option.some.injEq, Prod.mk.injEq] at h
    obtain ⟨rfl, rfl⟩ := h
    obtain ⟨h1, h2⟩ := takeP_some (a := p.1) (b := p.2) ht
    have h3 := beB_beV p.1
    rw [h2] at h3
    have h4 := beV_lt p.1
    rw [h2] at h4
    exact ⟨by rw [h3]; exact h1, h4⟩
def txtP (m : Nat) (l : List UInt8) : Option (ByteArray × List UInt8) := (numP m l).bind fun p => (takeP p.1 p.2).map fun q => (bs q.1, q.2)
theorem txtP_app {m : Nat} {s : ByteArray} {b : List UInt8} (h : s.size < 256 ^ m) : txtP m ((beB s.size m ++ bl s) ++ b) = some (s, b) := by
  rw [List.append_assoc]
  simp [txtP, numP_app h, takeP_app (bl_size s), bs_bl]
theorem txtP_some {m : Nat} {s : ByteArray} {l b : List UInt8} (h : txtP m l = some (s, b)) : l = (beB s.size m ++ bl s) ++ b ∧ s.size < 256 ^ m := by
  unfold txtP at h
  cases hn : numP m l with
  | none => rw [hn] at h; cases h
  | some p =>
    rw [hn] at h
    simp only [Option.bind_some] at h
    cases ht : takeP p.1 p.2 with
    | none => rw [ht] at h; cases h
    | some q =>
      rw [ht] at h
      simp only [Option.map_some, Option.some.injEq, Prod.mk.injEq] at h
      obtain ⟨rfl, rfl⟩ := h
      obtain ⟨h1, h2⟩ := numP_some (k := p.1) (b := p.2) hn
      obtain ⟨h3, h4⟩ := takeP_some (a := q.1) (b := q.2) ht
      rw [bs_size, h4, bl_bs, List.append_assoc, ← h3]
      exact ⟨h1, h2⟩
/-- A value, and the rest. -/
def valP (l : List UInt8) : Option (V × List UInt8) := (takeP 1 l).bind fun p =>
  (if beV p.1 = 0 then some ((⟨0, 0, ⟨#[]⟩⟩ : V), p.2)
   else if beV p.1 = 1 then (numP 8 p.2).map fun q => (⟨1, w64 q.1, ⟨#[]⟩⟩, q.2)
   else if beV p.1 = 2 then (numP 1 p.2).map fun q => (⟨2, (q.1 : Nat), ⟨#[]⟩⟩, q.2)
   else if beV p.1 = 3 then (txtP 1 p.2).map fun q => (⟨3, 0, q.1⟩, q.2)
   else none).bind fun r => if valueOk r.1 then some r else none
theorem u64_w64 (k : Nat) (h : k < 18446744073709551616) : u64 (w64 k) = k := by
  unfold u64
  rw [w64_eq]
  omega
theorem w64_u64 {n : Int} (h : w64 n = n) : w64 (u64 n : Nat) = n := by
  rw [← h, w64_eq, w64_eq]
  unfold u64
  rw [w64_eq] at h
  omega
theorem valP_some {v : V} {l b : List UInt8} (h : valP l = some (v, b)) : l = pvL v ++ b ∧ valueOk v = true ∧ w64 v.n = v.n := by
  unfold valP at h
  cases hp : takeP 1 l with
  | none => rw [hp] at h; cases h
  | some p =>
    rw [hp] at h
    obtain ⟨h1, h2⟩ := takeP_some (a := p.1) (b := p.2) hp
    have h3 := beB_beV p.1
    rw [h2] at h3
    simp only [Option.bind_some] at h
    split at h
    · rename_i hk
      simp only [Option.bind_some] at h
      split at h
      · rename_i ho
        simp only [Option.some.injEq, Prod.mk.injEq] at h
        obtain ⟨rfl, rfl⟩ := h
        rw [hk] at h3
        refine ⟨?_, ho, by decide⟩
        rw [h1]
        simp only [pvL, ho, if_true]
        rw [← h3]
        simp [u64]
      · cases h
    split at h
    · rename_i hk
      cases hn : numP 8 p.2 with
      | none => rw [hn] at h; cases h
      | some q =>
        rw [hn] at h
        simp only [Option.map_some, Option.bind_some] at h
        split at h
        · rename_i ho
          simp only [Option.some.injEq, Prod.mk.injEq] at h
          obtain ⟨rfl, rfl⟩ := h
          obtain ⟨g1, g2⟩ := numP_some (k := q.1) (b := q.2) hn
          rw [hk] at h3
          refine ⟨?_, ho, w64_w _⟩
          rw [h1, g1]
          simp only [pvL, ho, if_true]
          rw [u64_w64 _ (by simpa using g2), ← h3]
          simp [u64]
        · cases h
    split at h
    · rename_i hk
      cases hn : numP 1 p.2 with
      | none => rw [hn] at h; cases h
      | some q =>
        rw [hn] at h
        simp only [Option.map_some, Option.bind_some] at h
        split at h
        · rename_i ho
          simp only [Option.some.injEq, Prod.mk.injEq] at h
          obtain ⟨rfl, rfl⟩ := h
          obtain ⟨g1, g2⟩ := numP_some (k := q.1) (b := q.2) hn
          rw [hk] at h3
          have g3 : q.1 < 256 := by simpa using g2
          refine ⟨?_, ho, by show w64 ((q.1 : Nat) : Int) = ((q.1 : Nat) : Int); rw [w64_eq]; omega⟩
          rw [h1, g1]
          simp only [pvL, ho, if_true]
          rw [u64_nn (by omega), ← h3]
          simp [u64]
        · cases h
    split at h
    · rename_i hk
      cases hn : txtP 1 p.2 with
      | none => rw [hn] at h; cases h
      | some q =>
        rw [hn] at h
        simp only [Option.map_some, Option.bind_some] at h
        split at h
        · rename_i ho
          simp only [Option.some.injEq, Prod.mk.injEq] at h
          obtain ⟨rfl, rfl⟩ := h
          obtain ⟨g1, g2⟩ := txtP_some (s := q.1) (b := q.2) hn
          rw [hk] at h3
          refine ⟨?_, ho, w64_0⟩
          rw [h1, g1]
          simp only [pvL, ho, if_true]
          rw [← h3]
          simp [u64]
        · cases h
    · cases h
theorem valP_app {v : V} {b : List UInt8} (h : valueOk v = true) (hn : w64 v.n = v.n) : valP (pvL v ++ b) = some (v, b) := by
  obtain ⟨k, n, s⟩ := v
  simp only at hn
  have h' := h
  unfold valueOk at h'
  simp only at h'
  by_cases h0 : k = 0
  · subst h0
    simp only [if_true, Bool.and_eq_true, decide_eq_true_eq] at h'
    obtain ⟨rfl, rfl⟩ := h'
    simp only [pvL, h, if_true]
    rw [show (if (0 : Int) = 1 then beB (u64 0) 8 else if (0 : Int) = 2 then beB (u64 0) 1 else if (0 : Int) = 3 then beB (⟨#[]⟩ : ByteArray).size 1 ++ bl ⟨#[]⟩ else []) = [] from rfl, List.append_nil]
    unfold valP
    rw [takeP_app (beB_len _ 1)]
    simp only [Option.bind_some, show beV (beB (u64 0) 1) = 0 from by decide, if_true, h]
  by_cases h1 : k = 1
  · subst h1
    simp only [show ¬ ((1 : Int) = 0) by decide, if_false, if_true, decide_eq_true_eq] at h'
    subst h'
    simp only [pvL, h, if_true, List.append_assoc]
    unfold valP
    rw [takeP_app (beB_len _ 1)]
    simp only [Option.bind_some, show beV (beB (u64 1) 1) = 1 from by decide, show ¬ ((1 : Nat) = 0) by decide, if_false, if_true]
    rw [numP_app (u64_lt n)]
    simp only [Option.map_some, Option.bind_some, w64_u64 hn, h, if_true]
  by_cases h2 : k = 2
  · subst h2
    simp only [show ¬ ((2 : Int) = 0) by decide, show ¬ ((2 : Int) = 1) by decide, if_false, if_true, Bool.and_eq_true, decide_eq_true_eq] at h'
    obtain ⟨⟨n0, n1⟩, rfl⟩ := h'
    simp only [pvL, h, if_true, show ¬ ((2 : Int) = 1) by decide, if_false, List.append_assoc]
    unfold valP
    rw [takeP_app (beB_len _ 1)]
    simp only [Option.bind_some, show beV (beB (u64 2) 1) = 2 from by decide, show ¬ ((2 : Nat) = 0) by decide, show ¬ ((2 : Nat) = 1) by decide, if_false, if_true]
    have hu : u64 n < 256 ^ 1 := by unfold u64; omega
    have hu2 : ((u64 n : Nat) : Int) = n := by unfold u64; omega
    rw [numP_app hu]
    simp only [Option.map_some, Option.bind_some, hu2, h, if_true]
  by_cases h3 : k = 3
  · subst h3
    simp only [show ¬ ((3 : Int) = 0) by decide, show ¬ ((3 : Int) = 1) by decide, show ¬ ((3 : Int) = 2) by decide, if_false, if_true, Bool.and_eq_true, decide_eq_true_eq] at h'
    obtain ⟨rfl, hs⟩ := h'
    simp only [pvL, h, if_true, show ¬ ((3 : Int) = 1) by decide, show ¬ ((3 : Int) = 2) by decide, if_false]
    rw [List.append_assoc]
    unfold valP
    rw [takeP_app (beB_len _ 1)]
    simp only [Option.bind_some, show beV (beB (u64 3) 1) = 3 from by decide, show ¬ ((3 : Nat) = 0) by decide, show ¬ ((3 : Nat) = 1) by decide, show ¬ ((3 : Nat) = 2) by decide, if_false, if_true]
    rw [txtP_app (by omega)]
    simp only [Option.map_some, Option.bind_some, h, if_true]
  · simp [h0, h1, h2, h3] at h'
end Go.Av
end

section
namespace Go.Av
open Go.Proofs
set_option linter.unusedSimpArgs false
attribute [push_cast] strOf_map bs_app
@[push_cast] theorem beB_zero (n : Nat) : beB n 0 = [] := rfl
theorem strEmpty : (⟨#[]⟩ : ByteArray) = bs [] := rfl

/-- So many bytes of a number. -/
theorem ev_big (n : Int) (m : Nat) (hm : m ≤ 8) : evF cfg 47 [] [.d (.i .i64 n), .d (.i .i64 m)] = some (.d (.s (bs (beB (u64 n) m))), []) := by
  have hmk := mk_ok (n := m) 1 (by omega) (by omega)
  have hz := bigE_zero n m
  have hl0 := bigE_len n (m := m) (i := 0) (by omega)
  (refine (evF_code (C := cfg) (g := 47) (fn := Tryz.f47) rfl Tryz.func47 rfl (by rw [Tryz.ntmps47]; simp) (by kernel_rfl) (by first | decide | simp [keysOf])).trans ?_; rw [Tryz.results47, Tryz.ntmps47])
  repeat' (first | with_reducible refine br_split (fun _ => ?_) (fun _ => ?_) | simp only [*, push_cast, Array.reduceGetElem?, Nat.reduceBEq, Nat.reduceLT, Nat.reduceAdd, Nat.reduceSub, Nat.reduceLeDiff, Nat.reduceMul, Nat.reduceEqDiff, reduceCtorEq, Int.reduceAdd, Int.reduceLT, Int.reduceLE, Int.reduceToNat, Int.reduceNeg, Int.reduceSub, Int.reduceBEq, Int.reduceBNe, Int.reduceNe, Int.reduceGT, Int.reduceGE, Nat.reduceGT] | (rw [drawC_ok]; rotate_left; decide +kernel; exact cfg_mixed))
  rw [evM_for0 m (fun i j => { t := [(0, .d (.i .i64 n)), (1, .d (.i .i64 m)), (5, .own 50), (10, .d (.i .i64 m)), (11, .d (.i .i64 j))], o := [(50, .arr (.u8 5) 1 (bigE n m i))], ks := [50], n := 0, sz := 28, u := noU })
    (fun i => some (.exit 0, { t := [(5, .own 50)], o := [(50, .arr (.u8 5) 1 (bigE n m m))], ks := [50], n := 0, sz := 28, u := noU })) ?step ?last]
  case step =>
    intro i hi ih
    have hd := dec_lt hi
    have hw := wrap_succ (i := i) (by omega)
    have h1 : IntKind.i64.wrap ((m : Int) - 1) = ((m - 1 : Nat) : Int) := by rw [i64_in (by omega) (by omega)]; omega
    have h2 : IntKind.i64.wrap (((m - 1 : Nat) : Int) - (i : Int)) = ((m - 1 - i : Nat) : Int) := by rw [i64_in (by omega) (by omega)]; omega
    have h3 : IntKind.i64.wrap (8 * (i : Int)) = 8 * (i : Int) := i64_in (by omega) (by omega)
    have h4 : decide (0 ≤ 8 * (i : Int)) = true := decide_eq_true (by omega)
    have hl := bigE_len n (m := m) (i := i) (by omega)
    have hg := bigE_get n hi
    have hb := byte_at n i (by omega)
    have hs := bigE_set n hi
    have hlt : decide (m - 1 - i < m) = true := decide_eq_true (by omega)
    repeat' (first | with_reducible refine br_split (fun _ => ?_) (fun _ => ?_) | simp only [*, push_cast, Array.reduceGetElem?, Nat.reduceBEq, Nat.reduceLT, Nat.reduceAdd, Nat.reduceSub, Nat.reduceLeDiff, Nat.reduceMul, Nat.reduceEqDiff, reduceCtorEq, Int.reduceAdd, Int.reduceLT, Int.reduceLE, Int.reduceToNat, Int.reduceNeg, Int.reduceSub, Int.reduceBEq, Int.reduceBNe, Int.reduceNe, Int.reduceGT, Int.reduceGE, Nat.reduceGT] | (rw [drawC_ok]; rotate_left; decide +kernel; exact cfg_mixed))
  case last =>
    repeat' (first | with_reducible refine br_split (fun _ => ?_) (fun _ => ?_) | simp only [*, push_cast, Array.reduceGetElem?, Nat.reduceBEq, Nat.reduceLT, Nat.reduceAdd, Nat.reduceSub, Nat.reduceLeDiff, Nat.reduceMul, Nat.reduceEqDiff, reduceCtorEq, Int.reduceAdd, Int.reduceLT, Int.reduceLE, Int.reduceToNat, Int.reduceNeg, Int.reduceSub, Int.reduceBEq, Int.reduceBNe, Int.reduceNe, Int.reduceGT, Int.reduceGE, Nat.reduceGT] | (rw [drawC_ok]; rotate_left; decide +kernel; exact cfg_mixed))
  · have hf := bigE_full n m
    repeat' (first | with_reducible refine br_split (fun _ => ?_) (fun _ => ?_) | simp only [*, push_cast, Array.reduceGetElem?, Nat.reduceBEq, Nat.reduceLT, Nat.reduceAdd, Nat.reduceSub, Nat.reduceLeDiff, Nat.reduceMul, Nat.reduceEqDiff, reduceCtorEq, Int.reduceAdd, Int.reduceLT, Int.reduceLE, Int.reduceToNat, Int.reduceNeg, Int.reduceSub, Int.reduceBEq, Int.reduceBNe, Int.reduceNe, Int.reduceGT, Int.reduceGE, Nat.reduceGT] | (rw [drawC_ok]; rotate_left; decide +kernel; exact cfg_mixed))

@[push_cast] theorem ev_big1 (n : Int) : evF cfg 47 [] [.d (.i .i64 n), .d (.i .i64 1)] = some (.d (.s (bs (beB (u64 n) 1))), []) := ev_big n 1 (by omega)
@[push_cast] theorem ev_big4 (n : Int) : evF cfg 47 [] [.d (.i .i64 n), .d (.i .i64 4)] = some (.d (.s (bs (beB (u64 n) 4))), []) := ev_big n 4 (by omega)
@[push_cast] theorem ev_big8 (n : Int) : evF cfg 47 [] [.d (.i .i64 n), .d (.i .i64 8)] = some (.d (.s (bs (beB (u64 n) 8))), []) := ev_big n 8 (by omega)
attribute [push_cast] beB_len
@[push_cast] theorem strOf_one (b : UInt8) : strOf [[T.i .u8 (b.toNat : Nat)]] = some (bs [b]) := strOf_map [b]
@[push_cast] theorem bs_size' (l : List UInt8) : (bs l).size = l.length := bs_size l
theorem ev_l10Size (x m : Nat) (hm : m ≤ 8) (hx : x ≤ 9223372036854775807) : evF cfg 51 [] [.d (.i .i64 x), .d (.i .i64 m)] = some (.d (.s (bs (beB x m))), []) := by
  (refine (evF_code (C := cfg) (g := 51) (fn := Tryz.f51) rfl Tryz.func51 rfl (by rw [Tryz.ntmps51]; simp) (by kernel_rfl) (by first | decide | simp [keysOf])).trans ?_; rw [Tryz.results51, Tryz.ntmps51])
  repeat' (first | with_reducible refine br_split (fun _ => ?_) (fun _ => ?_) | simp only [*, push_cast, Array.reduceGetElem?, Nat.reduceBEq, Nat.reduceLT, Nat.reduceAdd, Nat.reduceSub, Nat.reduceLeDiff, Nat.reduceMul, Nat.reduceEqDiff, reduceCtorEq, Int.reduceAdd, Int.reduceLT, Int.reduceLE, Int.reduceToNat, Int.reduceNeg, Int.reduceSub, Int.reduceBEq, Int.reduceBNe, Int.reduceNe, Int.reduceGT, Int.reduceGE, Nat.reduceGT] | (rw [drawC_ok]; rotate_left; decide +kernel; exact cfg_mixed))
  rw [strEmpty, ← beB_zero x]
  have e0 : ((dv x 0 : Nat) : Int) = (x : Int) := congrArg (fun y : Nat => (y : Int)) (dv_zero x)
  rw [← e0]
  clear e0
  rw [evM_for0 m (fun i j => { t := [(0, .d (.i .i64 (dv x i : Nat))), (1, .d (.i .i64 m)), (5, .d (.s (bs (beB x i)))), (6, .d (.i .i64 j))], o := [], ks := [], n := 0, sz := 22, u := noU })
    (fun i => some (.exit 0, { t := [(5, .d (.s (bs (beB x m))))], o := [], ks := [], n := 0, sz := 22, u := noU })) ?step ?last]
  case step =>
    intro i hi ih
    have hd := dec_lt hi
    have hw := wrap_succ (i := i) (by omega)
    have hle := dv_le x i
    have h1 : ((dv x i : Nat) : Int).tmod 256 = (dv x i : Int) % 256 := Int.tmod_eq_emod_of_nonneg (by omega)
    have h2 : IntKind.i64.wrap (((dv x i : Nat) : Int).tdiv 256) = ((dv x (i + 1) : Nat) : Int) := by
      rw [Int.tdiv_eq_ediv_of_nonneg (by omega), i64_in (by omega) (by omega), dv_succ]
      omega
    have h3 := u8_nat (dv x i)
    have h4 : UInt8.ofNat (dv x i % 256) :: beB x i = beB x (i + 1) := rfl
    have hbl := beB_len x i
    have h5 : decide (1 + i ≤ 1099511627776) = true := decide_eq_true (by omega)
    have hne : decide ((256 : Int) ≠ 0) = true := rfl
    clear hle
    repeat' (first | with_reducible refine br_split (fun _ => ?_) (fun _ => ?_) | simp only [*, push_cast, Array.reduceGetElem?, Nat.reduceBEq, Nat.reduceLT, Nat.reduceAdd, Nat.reduceSub, Nat.reduceLeDiff, Nat.reduceMul, Nat.reduceEqDiff, reduceCtorEq, Int.reduceAdd, Int.reduceLT, Int.reduceLE, Int.reduceToNat, Int.reduceNeg, Int.reduceSub, Int.reduceBEq, Int.reduceBNe, Int.reduceNe, Int.reduceGT, Int.reduceGE, Nat.reduceGT] | (rw [drawC_ok]; rotate_left; decide +kernel; exact cfg_mixed))
  case last =>
    repeat' (first | with_reducible refine br_split (fun _ => ?_) (fun _ => ?_) | simp only [*, push_cast, Array.reduceGetElem?, Nat.reduceBEq, Nat.reduceLT, Nat.reduceAdd, Nat.reduceSub, Nat.reduceLeDiff, Nat.reduceMul, Nat.reduceEqDiff, reduceCtorEq, Int.reduceAdd, Int.reduceLT, Int.reduceLE, Int.reduceToNat, Int.reduceNeg, Int.reduceSub, Int.reduceBEq, Int.reduceBNe, Int.reduceNe, Int.reduceGT, Int.reduceGE, Nat.reduceGT] | (rw [drawC_ok]; rotate_left; decide +kernel; exact cfg_mixed))
  · repeat' (first | with_reducible refine br_split (fun _ => ?_) (fun _ => ?_) | simp only [*, push_cast, Array.reduceGetElem?, Nat.reduceBEq, Nat.reduceLT, Nat.reduceAdd, Nat.reduceSub, Nat.reduceLeDiff, Nat.reduceMul, Nat.reduceEqDiff, reduceCtorEq, Int.reduceAdd, Int.reduceLT, Int.reduceLE, Int.reduceToNat, Int.reduceNeg, Int.reduceSub, Int.reduceBEq, Int.reduceBNe, Int.reduceNe, Int.reduceGT, Int.reduceGE, Nat.reduceGT] | (rw [drawC_ok]; rotate_left; decide +kernel; exact cfg_mixed))
theorem ev_l10Text (s : ByteArray) (m : Nat) (hm : m ≤ 8) (hs : s.size ≤ 1099511627000) : evF cfg 52 [] [.d (.s s), .d (.i .i64 m)] = some (.d (.s (bs (beB s.size m ++ bl s))), []) := by
  have hb := ev_l10Size s.size m hm (by omega)
  have hl := beB_len s.size m
  have h5 : decide (m + s.size ≤ 1099511627776) = true := decide_eq_true (by omega)
  have ha := bs_appX (beB s.size m) s
  clear hs
  (refine (evF_code (C := cfg) (g := 52) (fn := Tryz.f52) rfl Tryz.func52 rfl (by rw [Tryz.ntmps52]; simp) (by kernel_rfl) (by first | decide | simp [keysOf])).trans ?_; rw [Tryz.results52, Tryz.ntmps52])
  repeat' (first | with_reducible refine br_split (fun _ => ?_) (fun _ => ?_) | simp only [*, push_cast, Array.reduceGetElem?, Nat.reduceBEq, Nat.reduceLT, Nat.reduceAdd, Nat.reduceSub, Nat.reduceLeDiff, Nat.reduceMul, Nat.reduceEqDiff, reduceCtorEq, Int.reduceAdd, Int.reduceLT, Int.reduceLE, Int.reduceToNat, Int.reduceNeg, Int.reduceSub, Int.reduceBEq, Int.reduceBNe, Int.reduceNe, Int.reduceGT, Int.reduceGE, Nat.reduceGT] | (rw [drawC_ok]; rotate_left; decide +kernel; exact cfg_mixed))
@[push_cast] theorem ev_number (n : Int) : evF cfg 81 [] [.d (.i .i64 n)] = some (.agg [.d (.i .i64 1), .d (.i .i64 n), .d (.s ⟨#[]⟩)], []) := by
  (refine (evF_code (C := cfg) (g := 81) (fn := Tryz.f81) rfl Tryz.func81 rfl (by rw [Tryz.ntmps81]; simp) (by kernel_rfl) (by first | decide | simp [keysOf])).trans ?_; rw [Tryz.results81, Tryz.ntmps81])
  repeat' (first | with_reducible refine br_split (fun _ => ?_) (fun _ => ?_) | simp only [*, push_cast, Array.reduceGetElem?, Nat.reduceBEq, Nat.reduceLT, Nat.reduceAdd, Nat.reduceSub, Nat.reduceLeDiff, Nat.reduceMul, Nat.reduceEqDiff, reduceCtorEq, Int.reduceAdd, Int.reduceLT, Int.reduceLE, Int.reduceToNat, Int.reduceNeg, Int.reduceSub, Int.reduceBEq, Int.reduceBNe, Int.reduceNe, Int.reduceGT, Int.reduceGE, Nat.reduceGT] | (rw [drawC_ok]; rotate_left; decide +kernel; exact cfg_mixed))
@[push_cast] theorem ev_l01Int (n : Int) : evF cfg 84 [] [.d (.i .i64 n)] = some (.agg [.d (.i .i64 1), .d (.i .i64 n), .d (.s ⟨#[]⟩)], []) := by
  (refine (evF_code (C := cfg) (g := 84) (fn := Tryz.f84) rfl Tryz.func84 rfl (by rw [Tryz.ntmps84]; simp) (by kernel_rfl) (by first | decide | simp [keysOf])).trans ?_; rw [Tryz.results84, Tryz.ntmps84])
  repeat' (first | with_reducible refine br_split (fun _ => ?_) (fun _ => ?_) | simp only [*, push_cast, Array.reduceGetElem?, Nat.reduceBEq, Nat.reduceLT, Nat.reduceAdd, Nat.reduceSub, Nat.reduceLeDiff, Nat.reduceMul, Nat.reduceEqDiff, reduceCtorEq, Int.reduceAdd, Int.reduceLT, Int.reduceLE, Int.reduceToNat, Int.reduceNeg, Int.reduceSub, Int.reduceBEq, Int.reduceBNe, Int.reduceNe, Int.reduceGT, Int.reduceGE, Nat.reduceGT] | (rw [drawC_ok]; rotate_left; decide +kernel; exact cfg_mixed))
end Go.Av
end

section
namespace Go.Av
open Go.Proofs
set_option linter.unusedSimpArgs false
attribute [push_cast] bs_appE size_nil
@[push_cast] theorem ml1 : decide (1 ≤ maxLen) = true := by decide
@[push_cast] theorem ml2 : decide (2 ≤ maxLen) = true := by decide
@[push_cast] theorem by_one (b : UInt8) : [T.i .u8 (b.toNat : Nat)] = byC b := rfl
@[push_cast] theorem byC_len (b : UInt8) : (byC b).length = 1 := rfl
theorem strOf_by (l : List UInt8) (x : UInt8) : strOf (byC x :: l.map byC) = some (bs (x :: l)) := strOf_map (x :: l)
@[push_cast] theorem strOf_by1 (x : UInt8) : strOf [byC x] = some (bs [x]) := strOf_map [x]
@[push_cast] theorem strOf_by2 (x y : UInt8) : strOf [byC x, byC y] = some (bs [x, y]) := strOf_map [x, y]
theorem ev_sPutValue (k n : Int) (s : ByteArray) : evF cfg 83 [] [.agg [.d (.i .i64 k), .d (.i .i64 n), .d (.s s)]] = some (.d (.s (bs (pvL ⟨k, n, s⟩))), []) := by
  cases hv : valueOk ⟨k, n, s⟩ with
  | false =>
    have hr : pvL ⟨k, n, s⟩ = [] := by simp [pvL, hv]
    have he := strEmpty
    rw [hr, ← he]
    clear he hr
    (refine (evF_code (C := cfg) (g := 83) (fn := Tryz.f83) rfl Tryz.func83 rfl (by rw [Tryz.ntmps83]; simp) (by kernel_rfl) (by first | decide | simp [keysOf])).trans ?_; rw [Tryz.results83, Tryz.ntmps83])
    repeat' (first | with_reducible refine br_split (fun _ => ?_) (fun _ => ?_) | simp only [*, push_cast, Array.reduceGetElem?, Nat.reduceBEq, Nat.reduceLT, Nat.reduceAdd, Nat.reduceSub, Nat.reduceLeDiff, Nat.reduceMul, Nat.reduceEqDiff, reduceCtorEq, Int.reduceAdd, Int.reduceLT, Int.reduceLE, Int.reduceToNat, Int.reduceNeg, Int.reduceSub, Int.reduceBEq, Int.reduceBNe, Int.reduceNe, Int.reduceGT, Int.reduceGE, Nat.reduceGT] | (rw [drawC_ok]; rotate_left; decide +kernel; exact cfg_mixed))
  | true =>
    have hu := u8_kb k
    by_cases h1 : k = 1
    · subst h1
      have hs0 : s = ⟨#[]⟩ := by
        simp [valueOk] at hv
        exact hv
      have hn := u64_wrap n
      have hr : pvL ⟨1, n, s⟩ = beB (u64 1) 1 ++ beB (u64 n) 8 := by simp [pvL, hv]
      rw [hr, beB1]
      subst hs0
      clear hr
      have hl := u64_lt n
      (refine (evF_code (C := cfg) (g := 83) (fn := Tryz.f83) rfl Tryz.func83 rfl (by rw [Tryz.ntmps83]; simp) (by kernel_rfl) (by first | decide | simp [keysOf])).trans ?_; rw [Tryz.results83, Tryz.ntmps83])
      repeat' (first | with_reducible refine br_split (fun _ => ?_) (fun _ => ?_) | simp only [*, push_cast, Array.reduceGetElem?, Nat.reduceBEq, Nat.reduceLT, Nat.reduceAdd, Nat.reduceSub, Nat.reduceLeDiff, Nat.reduceMul, Nat.reduceEqDiff, reduceCtorEq, Int.reduceAdd, Int.reduceLT, Int.reduceLE, Int.reduceToNat, Int.reduceNeg, Int.reduceSub, Int.reduceBEq, Int.reduceBNe, Int.reduceNe, Int.reduceGT, Int.reduceGE, Nat.reduceGT] | (rw [drawC_ok]; rotate_left; decide +kernel; exact cfg_mixed))
      rw [wv_zeroI, arrK_zero 1 n]
      rw [evM_for0 8 (fun i j => { t := [(1, .ptr 50 0), (3, .own 51), (4, .d (.i .u64 (u64 n : Nat))), (5, .d (.i .u64 (wv i : Nat))), (6, .d (.i .i64 j))], o := [(50, .box [.d (.i .i64 1), .d (.i .i64 n), .d (.s ⟨#[]⟩)]), (51, .arr (.u8 5) 1 (arrK 1 n i))], ks := [50, 51], n := 0, sz := 57, u := noU })
        (fun i => some (.exit 1, { t := [(1, .ptr 50 0), (3, .own 51)], o := [(50, .box [.d (.i .i64 1), .d (.i .i64 n), .d (.s ⟨#[]⟩)]), (51, .arr (.u8 5) 1 ((kb 1 :: beB (u64 n) 8).map byC))], ks := [50, 51], n := 0, sz := 57, u := noU })) ?step ?last]
      case step =>
        intro i hi ih
        have hd : decide ((i : Int) < 8) = true := decide_eq_true (by omega)
        have hw := wrap_succ (i := i) (by omega)
        have hp := wv_pos hi
        have hle := wv_le i
        have hne : decide (((wv i : Nat) : Int) ≠ 0) = true := decide_eq_true (by omega)
        have hq : IntKind.u64.wrap (((u64 n : Nat) : Int).tdiv (wv i : Nat)) = ((u64 n / wv i : Nat) : Int) := by
          rw [u64_wrap, Int.tdiv_eq_ediv_of_nonneg (by omega)]
          have h1 : ((u64 n : Nat) : Int) / ((wv i : Nat) : Int) = ((u64 n / wv i : Nat) : Int) := by simp
          have h2 : u64 n / wv i ≤ u64 n := Nat.div_le_self ..
          rw [h1, u64_nn (by omega)]
        have hne2 : decide ((256 : Int) ≠ 0) = true := rfl
        have hq2 : IntKind.u64.wrap (((wv i : Nat) : Int).tdiv 256) = ((wv (i + 1) : Nat) : Int) := by
          rw [u64_wrap, Int.tdiv_eq_ediv_of_nonneg (by omega), wv_succ]
          have h1 : ((wv i : Nat) : Int) / 256 = ((wv i / 256 : Nat) : Int) := by omega
          rw [h1, u64_nn (by omega)]
        have ha := arrK_succ 1 n hi
        have hal := arrK_len 1 n (i := i) (by omega)
        have hc := len_ok (n := i + 1 + 1) 1 (by omega) (by omega)
        obtain ⟨q, hqq⟩ : ∃ q, q = u64 n / wv i := ⟨_, rfl⟩
        rw [← hqq] at hq ha
        have hm : ((q : Nat) : Int).tmod 256 = (q : Int) % 256 := Int.tmod_eq_emod_of_nonneg (by omega)
        have h8 := u8_nat q
        clear hqq hp hle
        repeat' (first | with_reducible refine br_split (fun _ => ?_) (fun _ => ?_) | simp only [*, push_cast, Array.reduceGetElem?, Nat.reduceBEq, Nat.reduceLT, Nat.reduceAdd, Nat.reduceSub, Nat.reduceLeDiff, Nat.reduceMul, Nat.reduceEqDiff, reduceCtorEq, Int.reduceAdd, Int.reduceLT, Int.reduceLE, Int.reduceToNat, Int.reduceNeg, Int.reduceSub, Int.reduceBEq, Int.reduceBNe, Int.reduceNe, Int.reduceGT, Int.reduceGE, Nat.reduceGT] | (rw [drawC_ok]; rotate_left; decide +kernel; exact cfg_mixed))
      case last =>
        have hf := arrK_full 1 n
        have hd : decide ((8 : Int) < 8) = false := rfl
        repeat' (first | with_reducible refine br_split (fun _ => ?_) (fun _ => ?_) | simp only [*, push_cast, Array.reduceGetElem?, Nat.reduceBEq, Nat.reduceLT, Nat.reduceAdd, Nat.reduceSub, Nat.reduceLeDiff, Nat.reduceMul, Nat.reduceEqDiff, reduceCtorEq, Int.reduceAdd, Int.reduceLT, Int.reduceLE, Int.reduceToNat, Int.reduceNeg, Int.reduceSub, Int.reduceBEq, Int.reduceBNe, Int.reduceNe, Int.reduceGT, Int.reduceGE, Nat.reduceGT] | (rw [drawC_ok]; rotate_left; decide +kernel; exact cfg_mixed))
      · have hs := strOf_by (beB (u64 n) 8) (kb 1)
        repeat' (first | with_reducible refine br_split (fun _ => ?_) (fun _ => ?_) | simp only [*, push_cast, Array.reduceGetElem?, Nat.reduceBEq, Nat.reduceLT, Nat.reduceAdd, Nat.reduceSub, Nat.reduceLeDiff, Nat.reduceMul, Nat.reduceEqDiff, reduceCtorEq, Int.reduceAdd, Int.reduceLT, Int.reduceLE, Int.reduceToNat, Int.reduceNeg, Int.reduceSub, Int.reduceBEq, Int.reduceBNe, Int.reduceNe, Int.reduceGT, Int.reduceGE, Nat.reduceGT] | (rw [drawC_ok]; rotate_left; decide +kernel; exact cfg_mixed))
    have e1 : (k == 1) = false := by simpa using h1
    by_cases h2 : k = 2
    · subst h2
      have hs0 : s = ⟨#[]⟩ := by
        simp [valueOk] at hv
        exact hv.2
      have hr : pvL ⟨2, n, s⟩ = [kb 2, kb n] := by simp [pvL, hv, beB1]
      have hn := u8_kb n
      rw [hr]
      subst hs0
      clear hr h1
      (refine (evF_code (C := cfg) (g := 83) (fn := Tryz.f83) rfl Tryz.func83 rfl (by rw [Tryz.ntmps83]; simp) (by kernel_rfl) (by first | decide | simp [keysOf])).trans ?_; rw [Tryz.results83, Tryz.ntmps83])
      repeat' (first | with_reducible refine br_split (fun _ => ?_) (fun _ => ?_) | simp only [*, push_cast, Array.reduceGetElem?, Nat.reduceBEq, Nat.reduceLT, Nat.reduceAdd, Nat.reduceSub, Nat.reduceLeDiff, Nat.reduceMul, Nat.reduceEqDiff, reduceCtorEq, Int.reduceAdd, Int.reduceLT, Int.reduceLE, Int.reduceToNat, Int.reduceNeg, Int.reduceSub, Int.reduceBEq, Int.reduceBNe, Int.reduceNe, Int.reduceGT, Int.reduceGE, Nat.reduceGT] | (rw [drawC_ok]; rotate_left; decide +kernel; exact cfg_mixed))
    have e2 : (k == 2) = false := by simpa using h2
    by_cases h3 : k = 3
    · subst h3
      have hsz := valueOk_size hv rfl
      simp only [] at hsz
      have hr : pvL ⟨3, n, s⟩ = [kb 3, kb (s.size : Int)] ++ bl s := by
        simp [pvL, hv, beB1]
        have := beB1 (s.size : Int)
        rw [u64_nn (by omega)] at this
        rw [this]
        rfl
      have hn := u8_kb (s.size : Int)
      have hx := bs_appX [kb 3, kb (s.size : Int)] s
      have hd2 : decide (2 + s.size ≤ 1099511627776) = true := decide_eq_true (by omega)
      rw [hr, ← hx]
      clear hr h1 h2 hx hsz
      (refine (evF_code (C := cfg) (g := 83) (fn := Tryz.f83) rfl Tryz.func83 rfl (by rw [Tryz.ntmps83]; simp) (by kernel_rfl) (by first | decide | simp [keysOf])).trans ?_; rw [Tryz.results83, Tryz.ntmps83])
      repeat' (first | with_reducible refine br_split (fun _ => ?_) (fun _ => ?_) | simp only [*, push_cast, Array.reduceGetElem?, Nat.reduceBEq, Nat.reduceLT, Nat.reduceAdd, Nat.reduceSub, Nat.reduceLeDiff, Nat.reduceMul, Nat.reduceEqDiff, reduceCtorEq, Int.reduceAdd, Int.reduceLT, Int.reduceLE, Int.reduceToNat, Int.reduceNeg, Int.reduceSub, Int.reduceBEq, Int.reduceBNe, Int.reduceNe, Int.reduceGT, Int.reduceGE, Nat.reduceGT] | (rw [drawC_ok]; rotate_left; decide +kernel; exact cfg_mixed))
    · have e3 : (k == 3) = false := by simpa using h3
      have hs0 : s = ⟨#[]⟩ := by
        by_cases h0 : k = 0
        · subst h0
          simp [valueOk] at hv
          exact hv.2
        · exfalso
          simp [valueOk, h0, h1, h2, h3] at hv
      have hr : pvL ⟨k, n, s⟩ = [kb k] := by simp [pvL, hv, h1, h2, h3, beB1]
      rw [hr]
      subst hs0
      clear hr h1 h2 h3
      (refine (evF_code (C := cfg) (g := 83) (fn := Tryz.f83) rfl Tryz.func83 rfl (by rw [Tryz.ntmps83]; simp) (by kernel_rfl) (by first | decide | simp [keysOf])).trans ?_; rw [Tryz.results83, Tryz.ntmps83])
      repeat' (first | with_reducible refine br_split (fun _ => ?_) (fun _ => ?_) | simp only [*, push_cast, Array.reduceGetElem?, Nat.reduceBEq, Nat.reduceLT, Nat.reduceAdd, Nat.reduceSub, Nat.reduceLeDiff, Nat.reduceMul, Nat.reduceEqDiff, reduceCtorEq, Int.reduceAdd, Int.reduceLT, Int.reduceLE, Int.reduceToNat, Int.reduceNeg, Int.reduceSub, Int.reduceBEq, Int.reduceBNe, Int.reduceNe, Int.reduceGT, Int.reduceGE, Nat.reduceGT] | (rw [drawC_ok]; rotate_left; decide +kernel; exact cfg_mixed))
end Go.Av
end

section
namespace Go.Av
open Go.Proofs
set_option linter.unusedSimpArgs false
@[push_cast] theorem byC_all (l : List UInt8) : ((l.map byC).all fun e => e.length == 1) = true := by simp [byC]
attribute [push_cast] bytesT_bs
theorem map_app_by (a b : List UInt8) : a.map byC ++ b.map byC = (a ++ b).map byC := by simp
theorem pvL_len (v : V) : (pvL v).length ≤ 110 := by
  unfold pvL
  split
  · rename_i hv
    rw [List.length_append, beB_len]
    split
    · rw [beB_len]; omega
    · split
      · rw [beB_len]; omega
      · split
        · rename_i h3
          have := valueOk_size hv h3
          rw [List.length_append, beB_len, bl_size]; omega
        · simp
  · simp
theorem flat_len {α : Type} (f : α → List UInt8) (K : Nat) (hf : ∀ x, (f x).length ≤ K) : ∀ l : List α, (l.flatMap f).length ≤ l.length * K
  | [] => by simp
  | a :: l => by
    have h1 := flat_len f K hf l
    have h2 := hf a
    rw [List.flatMap_cons, List.length_append, List.length_cons, Nat.succ_mul]
    omega
def accR (w : Int) (rows : List C) (i : Nat) : List UInt8 := kb w :: (rows.take i).flatMap rowB
def accI (w : Int) (rows : List C) (i : Nat) (c : C) (j : Nat) : List UInt8 := (accR w rows i ++ pvL (numV c.n)) ++ (c.row.take j).flatMap pvL
theorem accR_full (w : Int) (rows : List C) : accR w rows rows.length = kb w :: rows.flatMap rowB := by simp [accR]
theorem accI_zero (w : Int) (rows : List C) (i : Nat) (c : C) : accR w rows i ++ pvL (numV c.n) = accI w rows i c 0 := by simp [accI]
theorem accI_succ (w : Int) (rows : List C) (i : Nat) (c : C) {j : Nat} (h : j < c.row.length) : accI w rows i c j ++ pvL c.row[j] = accI w rows i c (j + 1) := by
  simp only [accI]
  rw [List.take_succ_eq_append_getElem h, List.flatMap_append]
  simp
theorem accI_full (w : Int) (rows : List C) {i : Nat} (h : i < rows.length) : accI w rows i rows[i] rows[i].row.length = accR w rows (i + 1) := by
  simp only [accI, accR]
  rw [List.take_succ_eq_append_getElem h, List.flatMap_append, List.take_length]
  simp [rowB]
theorem rowB_len {c : C} {M : Nat} (h : c.row.length ≤ M) : (rowB c).length ≤ 110 + M * 110 := by
  have h1 := pvL_len (numV c.n)
  have h2 := flat_len pvL 110 pvL_len c.row
  have h3 : c.row.length * 110 ≤ M * 110 := Nat.mul_le_mul_right _ h
  rw [rowB, List.length_append]
  omega
theorem rows_len {M : Nat} : ∀ {rows : List C}, (∀ c ∈ rows, c.row.length ≤ M) → (rows.flatMap rowB).length ≤ rows.length * (110 + M * 110)
  | [], _ => by simp
  | c :: rows, h => by
    have h1 := rows_len (M := M) (rows := rows) fun c hc => h c (List.mem_cons_of_mem _ hc)
    have h2 := rowB_len (h c (List.mem_cons_self ..))
    rw [List.flatMap_cons, List.length_append, List.length_cons, Nat.succ_mul]
    omega
theorem accR_len {w : Int} {rows : List C} {i : Nat} (hl : rows.length ≤ 400) (hr : ∀ c ∈ rows, c.row.length ≤ 1048576) : (accR w rows i).length ≤ 50000000000 := by
  have h1 := rows_len (M := 1048576) (rows := rows.take i) fun c hc => hr c (List.mem_of_mem_take hc)
  have h2 : (rows.take i).length ≤ 400 := by rw [List.length_take]; omega
  have h3 : (rows.take i).length * (110 + 1048576 * 110) ≤ 400 * (110 + 1048576 * 110) := Nat.mul_le_mul_right _ h2
  rw [accR, List.length_cons]
  omega
theorem accI_len {w : Int} {rows : List C} {i : Nat} {c : C} {j : Nat} (hl : rows.length ≤ 400) (hr : ∀ c ∈ rows, c.row.length ≤ 1048576) (hc : c.row.length ≤ 1048576) : (accI w rows i c j).length ≤ 60000000000 := by
  have h1 := accR_len (w := w) (i := i) hl hr
  have h2 := pvL_len (numV c.n)
  have h3 := flat_len pvL 110 pvL_len (c.row.take j)
  have h4 : (c.row.take j).length ≤ 1048576 := by rw [List.length_take]; omega
  have h5 : (c.row.take j).length * 110 ≤ 1048576 * 110 := Nat.mul_le_mul_right _ h4
  rw [accI, List.length_append, List.length_append]
  omega
theorem pbL_len {b : B} (hr : ∀ c ∈ b.rows, c.row.length ≤ 1048576) : (pbL b).length ≤ 50000000000 := by
  unfold pbL
  split
  · rename_i h
    have hl : b.rows.length ≤ 400 := by simp [bagOk] at h; omega
    have := accR_len (w := b.w) (i := b.rows.length) hl hr
    rwa [accR_full] at this
  · simp
theorem ev_sPutBag (w : Int) (rows : List C) (hl : rows.length ≤ 1048576) (hr : ∀ c ∈ rows, c.row.length ≤ 1048576) : evF cfg 53 [] [.agg [.d (.i .i64 w), .d (.sl .any (rows.map cC))]] = some (.d (.s (bs (pbL ⟨w, rows⟩))), []) := by
  have hb := ev_sBagOk w rows (by omega) (fun c hc => by have := hr c hc; omega)
  cases hv : bagOk ⟨w, rows⟩ with
  | false =>
    have hp : pbL ⟨w, rows⟩ = [] := by simp [pbL, hv]
    have he := strEmpty
    rw [hp, ← he]
    clear hp he
    (refine (evF_code (C := cfg) (g := 53) (fn := Tryz.f53) rfl Tryz.func53 rfl (by rw [Tryz.ntmps53]; simp) (by kernel_rfl) (by first | decide | simp [keysOf])).trans ?_; rw [Tryz.results53, Tryz.ntmps53])
    repeat' (first | with_reducible refine br_split (fun _ => ?_) (fun _ => ?_) | simp only [*, push_cast, Array.reduceGetElem?, Nat.reduceBEq, Nat.reduceLT, Nat.reduceAdd, Nat.reduceSub, Nat.reduceLeDiff, Nat.reduceMul, Nat.reduceEqDiff, reduceCtorEq, Int.reduceAdd, Int.reduceLT, Int.reduceLE, Int.reduceToNat, Int.reduceNeg, Int.reduceSub, Int.reduceBEq, Int.reduceBNe, Int.reduceNe, Int.reduceGT, Int.reduceGE, Nat.reduceGT] | (rw [drawC_ok]; rotate_left; decide +kernel; exact cfg_mixed))
  | true =>
    have hp : pbL ⟨w, rows⟩ = kb w :: rows.flatMap rowB := by simp [pbL, hv]
    have h400 : rows.length ≤ 400 := by simp [bagOk] at hv; omega
    have hu := u8_kb w
    rw [hp, ← accR_full]
    clear hp
    (refine (evF_code (C := cfg) (g := 53) (fn := Tryz.f53) rfl Tryz.func53 rfl (by rw [Tryz.ntmps53]; simp) (by kernel_rfl) (by first | decide | simp [keysOf])).trans ?_; rw [Tryz.results53, Tryz.ntmps53])
    repeat' (first | with_reducible refine br_split (fun _ => ?_) (fun _ => ?_) | simp only [*, push_cast, Array.reduceGetElem?, Nat.reduceBEq, Nat.reduceLT, Nat.reduceAdd, Nat.reduceSub, Nat.reduceLeDiff, Nat.reduceMul, Nat.reduceEqDiff, reduceCtorEq, Int.reduceAdd, Int.reduceLT, Int.reduceLE, Int.reduceToNat, Int.reduceNeg, Int.reduceSub, Int.reduceBEq, Int.reduceBNe, Int.reduceNe, Int.reduceGT, Int.reduceGE, Nat.reduceGT] | (rw [drawC_ok]; rotate_left; decide +kernel; exact cfg_mixed))
    have e0 : [byC (kb w)] = (accR w rows 0).map byC := rfl
    rw [e0]
    clear e0 hu
    rw [evM_for0 rows.length (fun i j => { t := [(1, .ptr 50 0), (3, .own 51), (4, .d (.i .i64 j))], o := [(50, .box [.d (.i .i64 w), .d (.sl .any (rows.map cC))]), (51, .arr (.u8 5) 1 ((accR w rows i).map byC))], ks := [50, 51], n := 0, sz := 57, u := noU })
      (fun i => some (.exit 0, { t := [(3, .own 50)], o := [(50, .arr (.u8 5) 1 ((accR w rows rows.length).map byC))], ks := [50], n := 0, sz := 57, u := noU })) ?step ?last]
    case step =>
      intro i hi ih
      have hd := dec_lt hi
      have hw := wrap_succ (i := i) (by omega)
      have hci : (rows.map cC)[i]? = some [.sl .any (rows[i].row.map vC), .i .i64 rows[i].n] := get_map cC rows i hi
      have hpn := ev_sPutValue 1 rows[i].n ⟨#[]⟩
      have hnv : (⟨1, rows[i].n, ⟨#[]⟩⟩ : V) = numV rows[i].n := rfl
      rw [hnv] at hpn
      have hz := accI_zero w rows i rows[i]
      have hrl := hr _ (List.getElem_mem hi)
      have ha := map_app_by (accR w rows i) (pvL (numV rows[i].n))
      have hln := accR_len (w := w) (i := i) h400 hr
      have hpl := pvL_len (numV rows[i].n)
      have hc := len_ok (n := (accR w rows i).length + (pvL (numV rows[i].n)).length) 1 (by omega) (by omega)
      have hf := accI_full w rows hi
      rw [hz] at ha
      clear hln hpl hz hnv
      repeat' (first | with_reducible refine br_split (fun _ => ?_) (fun _ => ?_) | simp only [*, push_cast, Array.reduceGetElem?, Nat.reduceBEq, Nat.reduceLT, Nat.reduceAdd, Nat.reduceSub, Nat.reduceLeDiff, Nat.reduceMul, Nat.reduceEqDiff, reduceCtorEq, Int.reduceAdd, Int.reduceLT, Int.reduceLE, Int.reduceToNat, Int.reduceNeg, Int.reduceSub, Int.reduceBEq, Int.reduceBNe, Int.reduceNe, Int.reduceGT, Int.reduceGE, Nat.reduceGT] | (rw [drawC_ok]; rotate_left; decide +kernel; exact cfg_mixed))
      rw [evM_for0 rows[i].row.length (fun j k => { t := [(1, .ptr 50 0), (3, .own 51), (4, .d (.i .i64 i)), (5, .d (.i .i64 k))], o := [(50, .box [.d (.i .i64 w), .d (.sl .any (rows.map cC))]), (51, .arr (.u8 5) 1 ((accI w rows i rows[i] j).map byC))], ks := [50, 51], n := 0, sz := 57, u := noU })
        (fun j => some (.exit 2, { t := [(1, .ptr 50 0), (3, .own 51), (4, .d (.i .i64 i))], o := [(50, .box [.d (.i .i64 w), .d (.sl .any (rows.map cC))]), (51, .arr (.u8 5) 1 ((accR w rows (i + 1)).map byC))], ks := [50, 51], n := 0, sz := 57, u := noU })) ?step2 ?last2]
      case step2 =>
        intro j hj ih2
        have hd2 := dec_lt hj
        have hw2 := wrap_succ (i := j) (by omega)
        have hcj : (rows[i].row.map vC)[j]? = some [.i .i64 rows[i].row[j].k, .i .i64 rows[i].row[j].n, .s rows[i].row[j].s] := get_map vC _ j hj
        have hpv := ev_sPutValue rows[i].row[j].k rows[i].row[j].n rows[i].row[j].s
        have hss := accI_succ w rows i rows[i] hj
        have ha2 := map_app_by (accI w rows i rows[i] j) (pvL rows[i].row[j])
        have hln := accI_len (w := w) (i := i) (c := rows[i]) (j := j) h400 hr hrl
        have hpl := pvL_len rows[i].row[j]
        have hc2 := len_ok (n := (accI w rows i rows[i] j).length + (pvL rows[i].row[j]).length) 1 (by omega) (by omega)
        rw [hss] at ha2
        clear hln hpl hss ih hc ha hpn hf
        repeat' (first | with_reducible refine br_split (fun _ => ?_) (fun _ => ?_) | simp only [*, push_cast, Array.reduceGetElem?, Nat.reduceBEq, Nat.reduceLT, Nat.reduceAdd, Nat.reduceSub, Nat.reduceLeDiff, Nat.reduceMul, Nat.reduceEqDiff, reduceCtorEq, Int.reduceAdd, Int.reduceLT, Int.reduceLE, Int.reduceToNat, Int.reduceNeg, Int.reduceSub, Int.reduceBEq, Int.reduceBNe, Int.reduceNe, Int.reduceGT, Int.reduceGE, Nat.reduceGT] | (rw [drawC_ok]; rotate_left; decide +kernel; exact cfg_mixed))
      case last2 =>
        clear ih
        repeat' (first | with_reducible refine br_split (fun _ => ?_) (fun _ => ?_) | simp only [*, push_cast, Array.reduceGetElem?, Nat.reduceBEq, Nat.reduceLT, Nat.reduceAdd, Nat.reduceSub, Nat.reduceLeDiff, Nat.reduceMul, Nat.reduceEqDiff, reduceCtorEq, Int.reduceAdd, Int.reduceLT, Int.reduceLE, Int.reduceToNat, Int.reduceNeg, Int.reduceSub, Int.reduceBEq, Int.reduceBNe, Int.reduceNe, Int.reduceGT, Int.reduceGE, Nat.reduceGT] | (rw [drawC_ok]; rotate_left; decide +kernel; exact cfg_mixed))
      · repeat' (first | with_reducible refine br_split (fun _ => ?_) (fun _ => ?_) | simp only [*, push_cast, Array.reduceGetElem?, Nat.reduceBEq, Nat.reduceLT, Nat.reduceAdd, Nat.reduceSub, Nat.reduceLeDiff, Nat.reduceMul, Nat.reduceEqDiff, reduceCtorEq, Int.reduceAdd, Int.reduceLT, Int.reduceLE, Int.reduceToNat, Int.reduceNeg, Int.reduceSub, Int.reduceBEq, Int.reduceBNe, Int.reduceNe, Int.reduceGT, Int.reduceGE, Nat.reduceGT] | (rw [drawC_ok]; rotate_left; decide +kernel; exact cfg_mixed))
    case last =>
      repeat' (first | with_reducible refine br_split (fun _ => ?_) (fun _ => ?_) | simp only [*, push_cast, Array.reduceGetElem?, Nat.reduceBEq, Nat.reduceLT, Nat.reduceAdd, Nat.reduceSub, Nat.reduceLeDiff, Nat.reduceMul, Nat.reduceEqDiff, reduceCtorEq, Int.reduceAdd, Int.reduceLT, Int.reduceLE, Int.reduceToNat, Int.reduceNeg, Int.reduceSub, Int.reduceBEq, Int.reduceBNe, Int.reduceNe, Int.reduceGT, Int.reduceGE, Nat.reduceGT] | (rw [drawC_ok]; rotate_left; decide +kernel; exact cfg_mixed))
    · repeat' (first | with_reducible refine br_split (fun _ => ?_) (fun _ => ?_) | simp only [*, push_cast, Array.reduceGetElem?, Nat.reduceBEq, Nat.reduceLT, Nat.reduceAdd, Nat.reduceSub, Nat.reduceLeDiff, Nat.reduceMul, Nat.reduceEqDiff, reduceCtorEq, Int.reduceAdd, Int.reduceLT, Int.reduceLE, Int.reduceToNat, Int.reduceNeg, Int.reduceSub, Int.reduceBEq, Int.reduceBNe, Int.reduceNe, Int.reduceGT, Int.reduceGE, Nat.reduceGT] | (rw [drawC_ok]; rotate_left; decide +kernel; exact cfg_mixed))
end Go.Av
end
