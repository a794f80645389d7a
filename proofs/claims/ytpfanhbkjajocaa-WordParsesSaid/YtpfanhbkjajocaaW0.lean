/-
  What word.Take, word.Put and their references compute, in plain Lean, and that they are one. Own work.
-/
import Derived.Test.YtpfanhbkjajocaaAM13
namespace Go.Proofs.Ytpfanhbkjajocaa
open Go.AM

/-- The byte at a place. -/
def tk (s : ByteArray) (i : Int) : Int := ((s[i.toNat]?.getD 0).toNat : Int)
theorem tk_nonneg (s : ByteArray) (i : Int) : 0 ≤ tk s i := Int.natCast_nonneg _
theorem tk_lt (s : ByteArray) (i : Int) : tk s i < 256 := by
  have := (s[i.toNat]?.getD 0).toNat_lt
  simp only [tk]; omega

abbrev T3 := Int × Int × Int
def err3 : T3 := (0, 0, 40)
def tv (x : T3) : Value := .tuple #[.int .i64 x.1, .int .i64 x.2.1, .int .i64 x.2.2]

/-- A code's value. -/
def decP (u : Int) : Int := bxor .i64 (IntKind.i64.wrap (shrI .u64 u 1)) (IntKind.i64.wrap (0 - IntKind.i64.wrap (band .u64 u 1)))
def decR (u : Int) : Int := if u.tmod 2 = 1 then IntKind.i64.wrap (IntKind.i64.wrap (0 - IntKind.i64.wrap (shrI .u64 u 1)) - 1) else IntKind.i64.wrap (shrI .u64 u 1)
def addP (u c : Int) (k : Nat) : Int := bor .u64 u (shlI .u64 (IntKind.u64.wrap (band .u8 c 127)) (7 * (k : Int)))
def addR (u c : Int) (k : Nat) : Int := bor .u64 u (shlI .u64 (IntKind.u64.wrap (c.tmod 128)) (7 * (k : Int)))

def takeP (s : ByteArray) (a : Int) : Nat → Nat → Int → T3
  | 0, _, _ => err3
  | d + 1, k, u =>
    if a + k < s.size then
      if k = 9 ∧ tk s (a + k) > 1 then err3
      else if tk s (a + k) < 128 then (if tk s (a + k) = 0 ∧ k > 0 then err3 else (decP (addP u (tk s (a + k)) k), (k : Int) + 1, 0))
      else takeP s a d (k + 1) (addP u (tk s (a + k)) k)
    else err3

def takeR (s : ByteArray) (a : Int) : Nat → Nat → Int → T3
  | 0, _, _ => err3
  | d + 1, k, u =>
    if a + k < s.size then
      if k = 9 ∧ (tk s (a + k)).tmod 128 > 1 then err3
      else if tk s (a + k) ≥ 128 then takeR s a d (k + 1) (addR u (tk s (a + k)) k)
      else if tk s (a + k) = 0 ∧ k > 0 then err3 else (decR (addR u (tk s (a + k)) k), (k : Int) + 1, 0)
    else err3

theorem band_byte (c : Int) (h0 : 0 ≤ c) (h1 : c < 256) : IntKind.u64.wrap (band .u8 c 127) = IntKind.u64.wrap (c.tmod 128) := by
  obtain ⟨n, rfl⟩ := Int.eq_ofNat_of_zero_le h0
  have hn : n < 256 := by omega
  have : ∀ n : Fin 256, IntKind.u64.wrap (band .u8 ((n.1 : Nat) : Int) 127) = IntKind.u64.wrap (((n.1 : Nat) : Int).tmod 128) := by decide +kernel
  exact this ⟨n, hn⟩

theorem addP_eq (u : Int) (s : ByteArray) (i : Int) (k : Nat) : addP u (tk s i) k = addR u (tk s i) k := by
  unfold addP addR
  rw [band_byte _ (tk_nonneg _ _) (tk_lt _ _)]

theorem addR_word (u : BitVec 64) (c : Int) (k : Nat) : ∃ v : BitVec 64, addR (un u) c k = un v := by
  unfold addR
  rw [wrap_u64_bv, shl_un, bor_un]
  exact ⟨_, rfl⟩

/-- A word as a signed number. -/
def sn (x : BitVec 64) : Int := x.toInt
theorem wrap_i64_bv (z : Int) : IntKind.i64.wrap z = sn (BitVec.ofInt 64 z) := by
  simp only [IntKind.wrap, IntKind.bits, IntKind.signed, sn, BitVec.toInt_ofInt, Int.bmod_def]
  simp
  split <;> omega
theorem ofInt_sn (x : BitVec 64) : BitVec.ofInt 64 (sn x) = x := by simp [sn]
theorem sn_of_un (x : BitVec 64) : IntKind.i64.wrap (un x) = sn x := by rw [wrap_i64_bv, ofInt_un]
theorem un_of_sn (x : BitVec 64) : IntKind.u64.wrap (sn x) = un x := by rw [wrap_u64_bv, ofInt_sn]
theorem bxor_sn (x y : BitVec 64) : bxor .i64 (sn x) (sn y) = sn (x ^^^ y) := by
  show IntKind.i64.wrap ((BitVec.ofInt 64 (sn x) ^^^ BitVec.ofInt 64 (sn y)).toNat : Int) = _
  rw [ofInt_sn, ofInt_sn]
  exact sn_of_un _
theorem neg_sn (x : BitVec 64) : IntKind.i64.wrap (0 - sn x) = sn (-x) := by
  rw [wrap_i64_bv]
  congr 1
  rw [show (0 : Int) - sn x = - sn x by omega, BitVec.ofInt_neg, ofInt_sn]
theorem sub_sn (x y : BitVec 64) : IntKind.i64.wrap (sn x - sn y) = sn (x - y) := by
  rw [wrap_i64_bv]
  congr 1
  rw [Int.sub_eq_add_neg, BitVec.ofInt_add, BitVec.ofInt_neg, ofInt_sn, ofInt_sn, BitVec.sub_eq_add_neg]
theorem one_sn : (1 : Int) = sn 1#64 := by decide
theorem sub1_sn (x : BitVec 64) : IntKind.i64.wrap (sn x - 1) = sn (x - 1#64) := by rw [one_sn]; exact sub_sn x 1#64

theorem tmod_un (u : BitVec 64) : (un u).tmod 2 = (u.toNat % 2 : Nat) := by
  rw [un, Int.tmod_eq_emod_of_nonneg (Int.natCast_nonneg _)]; rfl

theorem dec_eq (u : BitVec 64) : decP (un u) = decR (un u) := by
  unfold decP decR
  have e1 : shrI .u64 (un u) 1 = un (u >>> 1) := shr_un u 1
  rw [e1, sn_of_un, band1_un, sn_of_un, neg_sn, neg_sn, bxor_sn, tmod_un]
  rw [sub1_sn]
  have e2 : (-(u >>> 1) - 1#64) = ~~~(u >>> 1) := by
    rw [BitVec.neg_eq_not_add]; exact BitVec.add_sub_cancel _ _
  rw [e2]
  by_cases h : u.toNat % 2 = 1
  · rw [if_pos (by omega)]
    congr 1
    have : u &&& 1#64 = 1#64 := by
      apply BitVec.eq_of_toNat_eq
      simp [Nat.and_one_is_mod]; omega
    rw [this]
    have : -(1#64) = BitVec.allOnes 64 := by decide
    rw [this, BitVec.xor_allOnes]
  · rw [if_neg (by omega)]
    congr 1
    have : u &&& 1#64 = 0#64 := by
      apply BitVec.eq_of_toNat_eq
      simp [Nat.and_one_is_mod]; omega
    rw [this]
    simp

theorem take_err (s : ByteArray) (a : Int) (d : Nat) (u : Int) : takeR s a d 10 u = err3 ∨ d ≠ 0 := by
  cases d with
  | zero => exact .inl rfl
  | succ d => exact .inr (by omega)

theorem take_eq (s : ByteArray) (a : Int) : ∀ (d k : Nat) (u : BitVec 64), k + d = 10 → takeP s a d k (un u) = takeR s a d k (un u)
  | 0, _, _, _ => rfl
  | d + 1, k, u, hk => by
    unfold takeP takeR
    split
    · have h0 := tk_nonneg s (a + k)
      have h1 := tk_lt s (a + k)
      have hm : (tk s (a + k)).tmod 128 = tk s (a + k) % 128 := Int.tmod_eq_emod_of_nonneg h0
      rw [addP_eq, hm]
      obtain ⟨v, hv⟩ := addR_word u (tk s (a + k)) k
      rw [hv]
      by_cases c1 : tk s (a + k) < 128
      · rw [if_pos c1, if_neg (show ¬ tk s (a + k) ≥ 128 by omega), dec_eq, show tk s (a + k) % 128 = tk s (a + k) by omega]
      · rw [if_neg c1, if_pos (show tk s (a + k) ≥ 128 by omega)]
        by_cases c9 : k = 9
        · have hd : d = 0 := by omega
          subst hd
          simp only [takeP, takeR]
          split <;> split <;> rfl
        · rw [if_neg (by omega), if_neg (by omega)]
          exact take_eq s a d (k + 1) v (by omega)
    · rfl

/-! ### Put -/
def putGo : Nat → BitVec 64 → List Value
  | 0, u => [.int .u8 (IntKind.u8.wrap (un u))]
  | d + 1, u => if u.toNat ≥ 128 then .int .u8 (bor .u8 (IntKind.u8.wrap (un u)) 128) :: putGo d (u >>> 7) else [.int .u8 (IntKind.u8.wrap (un u))]

theorem u8_or (c : Int) (h0 : 0 ≤ c) (h1 : c < 256) : bor .u8 c 128 = IntKind.u8.wrap (c.tmod 128 + 128) := by
  obtain ⟨n, rfl⟩ := Int.eq_ofNat_of_zero_le h0
  have hn : n < 256 := by omega
  have : ∀ n : Fin 256, bor .u8 ((n.1 : Nat) : Int) 128 = IntKind.u8.wrap (((n.1 : Nat) : Int).tmod 128 + 128) := by decide +kernel
  exact this ⟨n, hn⟩

theorem wrap_u8 (z : Int) : IntKind.u8.wrap z = z % 256 := by
  simp only [IntKind.wrap, IntKind.bits, IntKind.signed]
  simp

theorem byte_eq (u : BitVec 64) : bor .u8 (IntKind.u8.wrap (un u)) 128 = IntKind.u8.wrap (IntKind.u8.wrap ((un u).tmod 128) + 128) := by
  have h0 := un_nonneg u
  have hm : (un u).tmod 128 = un u % 128 := Int.tmod_eq_emod_of_nonneg h0
  rw [u8_or _ (by rw [wrap_u8]; omega) (by rw [wrap_u8]; omega), wrap_u8, wrap_u8, wrap_u8, wrap_u8, hm, Int.tmod_eq_emod_of_nonneg (by omega)]
  omega

theorem quo_eq (u : BitVec 64) : IntKind.u64.wrap ((un u).tdiv 128) = un (u >>> 7) := by
  have h : (un u).tdiv 128 = un (u >>> 7) := by
    rw [Int.tdiv_eq_ediv_of_nonneg (un_nonneg u)]
    simp [un, Nat.shiftRight_eq_div_pow]
  rw [h, wrap_u64_bv, ofInt_un]

/-- The word that is put. -/
def zig (v : Int) : BitVec 64 := if v < 0 then ~~~(BitVec.ofInt 64 v <<< 1) else BitVec.ofInt 64 v <<< 1

theorem sn_ofInt {v : Int} (h : -9223372036854775808 ≤ v) (h' : v ≤ 9223372036854775807) : sn (BitVec.ofInt 64 v) = v := by
  rw [← wrap_i64_bv, wrap_i64 h h']

theorem shl1_sn (x : BitVec 64) : shlI .i64 (sn x) 1 = sn (x <<< 1) := by
  show IntKind.i64.wrap (sn x * 2 ^ 1) = _
  rw [wrap_i64_bv]
  congr 1
  rw [BitVec.ofInt_mul, ofInt_sn]
  apply BitVec.eq_of_toNat_eq
  simp [BitVec.toNat_mul, Nat.shiftLeft_eq]

theorem zigP {v : Int} (h : -9223372036854775808 ≤ v) (h' : v ≤ 9223372036854775807) : bxor .u64 (IntKind.u64.wrap (shlI .i64 v 1)) (IntKind.u64.wrap (shrI .i64 v 63)) = un (zig v) := by
  have e : shlI .i64 v 1 = sn (BitVec.ofInt 64 v <<< 1) := by
    rw [← shl1_sn, sn_ofInt h h']
  rw [e, un_of_sn]
  have e2 : shrI .i64 v 63 = if v < 0 then -1 else 0 := by
    show v.fdiv (2 ^ 63) = _
    rw [Int.fdiv_eq_ediv_of_nonneg _ (by decide)]
    split <;> omega
  rw [e2, zig]
  split
  · rw [show IntKind.u64.wrap (-1) = un (BitVec.allOnes 64) by decide, bxor_un, BitVec.xor_allOnes]
  · rw [show IntKind.u64.wrap 0 = un 0#64 by decide, bxor_un, BitVec.xor_zero]

theorem shl_wrap (v : Int) : shlI .u64 (IntKind.u64.wrap v) 1 = un (BitVec.ofInt 64 v <<< 1) := by
  rw [wrap_u64_bv]; exact shl_un _ 1

theorem not_un (x : BitVec 64) : bxor .u64 18446744073709551615 (un x) = un (~~~x) := by
  rw [show (18446744073709551615 : Int) = un (BitVec.allOnes 64) by decide, bxor_un, BitVec.allOnes_xor]

theorem putGo_last (d : Nat) (u : BitVec 64) (h : ¬ u.toNat ≥ 128) : putGo d u = [.int .u8 (IntKind.u8.wrap (un u))] := by
  cases d with
  | zero => rfl
  | succ d => rw [putGo, if_neg h]

theorem un_ge (u : BitVec 64) : 128 ≤ un u ↔ 128 ≤ u.toNat := by
  simp only [un]; omega

def putS (v : Int) : ByteArray := bstr (putGo 10 (zig v))
end Go.Proofs.Ytpfanhbkjajocaa
