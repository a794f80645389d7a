/-
  The abstract machine, ninth part: loops, and numbers as words of 64 bits. Own work; over any program.
-/
import Derived.Test.YtehimiadpgbhmaaDoorAM8
namespace Go.AM

theorem Run.rounds {C : Ctx} {todo : List Item} {σ : St} {ι : Type} (S : ι → St) (μ : ι → Nat) (i0 : ι) (ht : inT σ.t (S i0).t) (hh : inT σ.h (S i0).h)
    (step : ∀ i, (∀ j, μ j < μ i → ∀ σ', inT σ'.t (S j).t → inT σ'.h (S j).h → Run C todo σ') → Run C todo (S i)) : Run C todo σ := by
  have key : ∀ n i, μ i < n → Run C todo (S i) := by
    intro n
    induction n with
    | zero => intro i h; omega
    | succ n ih => intro i h; exact step i fun j hj σ' h1 h2 => (ih j (by omega)).weaken ⟨inT_lk h1, inT_lk h2⟩
  exact (key _ i0 (Nat.lt_succ_self _)).weaken ⟨inT_lk ht, inT_lk hh⟩

/-- A counter that goes up to N. -/
theorem Run.count {C : Ctx} {todo : List Item} {σ : St} (S : Nat → St) (N : Nat) (k0 : Nat) (hk : k0 ≤ N) (ht : inT σ.t (S k0).t) (hh : inT σ.h (S k0).h)
    (step : ∀ k, k0 ≤ k → k ≤ N → (k < N → ∀ σ', inT σ'.t (S (k + 1)).t → inT σ'.h (S (k + 1)).h → Run C todo σ') → Run C todo (S k)) : Run C todo σ := by
  have key : ∀ d k, k0 ≤ k → k ≤ N → N - k = d → Run C todo (S k) := by
    intro d
    induction d with
    | zero => intro k h0 h1 h2; exact step k h0 h1 (fun h => by omega)
    | succ d ih => intro k h0 h1 h2; exact step k h0 h1 (fun h σ' h3 h4 => (ih (k + 1) (by omega) (by omega) (by omega)).weaken ⟨inT_lk h3, inT_lk h4⟩)
  exact (key _ k0 (Nat.le_refl _) hk rfl).weaken ⟨inT_lk ht, inT_lk hh⟩

theorem i64_eq {a b : Int} (h : a = b) : some (AV.v (Value.int .i64 a)) = some (AV.v (Value.int .i64 b)) := by rw [h]
theorem u64_eq {a b : Int} (h : a = b) : some (AV.v (Value.int .u64 a)) = some (AV.v (Value.int .u64 b)) := by rw [h]
theorem bool_eq {a b : Bool} (h : a = b) : some (AV.v (Value.bool a)) = some (AV.v (Value.bool b)) := by rw [h]

theorem wrap_i64 {x : Int} (h1 : -9223372036854775808 ≤ x) (h2 : x ≤ 9223372036854775807) : IntKind.i64.wrap x = x := by
  simp only [IntKind.wrap, IntKind.bits, IntKind.signed]
  simp
  omega

theorem wrap_u64 {x : Int} (h1 : 0 ≤ x) (h2 : x ≤ 18446744073709551615) : IntKind.u64.wrap x = x := by
  simp only [IntKind.wrap, IntKind.bits, IntKind.signed]
  simp
  omega

theorem wrap_succ {k : Nat} (h : k < 9223372036854775807) : IntKind.i64.wrap ((k : Int) + 1) = ((k + 1 : Nat) : Int) := by rw [wrap_i64] <;> omega

/-! ### Words -/
/-- A word as a number. -/
def un (x : BitVec 64) : Int := (x.toNat : Int)

theorem un_nonneg (x : BitVec 64) : 0 ≤ un x := Int.natCast_nonneg _
theorem un_lt (x : BitVec 64) : un x < 18446744073709551616 := by have := x.isLt; simp only [un]; omega

theorem wrap_u64_nat (n : Nat) : IntKind.u64.wrap (n : Int) = ((n % 2 ^ 64 : Nat) : Int) := by
  simp only [IntKind.wrap, IntKind.bits, IntKind.signed]
  simp

theorem ofInt_un (x : BitVec 64) : BitVec.ofInt 64 (un x) = x := by simp [un]

@[simp] theorem bor_un (x y : BitVec 64) : bor .u64 (un x) (un y) = un (x ||| y) := by
  show IntKind.u64.wrap ((BitVec.ofInt 64 (un x) ||| BitVec.ofInt 64 (un y)).toNat : Int) = _
  rw [ofInt_un, ofInt_un, wrap_u64_nat, Nat.mod_eq_of_lt (x ||| y).isLt]; rfl
@[simp] theorem band_un (x y : BitVec 64) : band .u64 (un x) (un y) = un (x &&& y) := by
  show IntKind.u64.wrap ((BitVec.ofInt 64 (un x) &&& BitVec.ofInt 64 (un y)).toNat : Int) = _
  rw [ofInt_un, ofInt_un, wrap_u64_nat, Nat.mod_eq_of_lt (x &&& y).isLt]; rfl
@[simp] theorem bxor_un (x y : BitVec 64) : bxor .u64 (un x) (un y) = un (x ^^^ y) := by
  show IntKind.u64.wrap ((BitVec.ofInt 64 (un x) ^^^ BitVec.ofInt 64 (un y)).toNat : Int) = _
  rw [ofInt_un, ofInt_un, wrap_u64_nat, Nat.mod_eq_of_lt (x ^^^ y).isLt]; rfl
@[simp] theorem bandn_un (x y : BitVec 64) : bandn .u64 (un x) (un y) = un (x &&& ~~~y) := by
  show IntKind.u64.wrap ((BitVec.ofInt 64 (un x) &&& ~~~(BitVec.ofInt 64 (un y))).toNat : Int) = _
  rw [ofInt_un, ofInt_un, wrap_u64_nat, Nat.mod_eq_of_lt (x &&& ~~~y).isLt]; rfl

theorem wrap_u64_bv (z : Int) : IntKind.u64.wrap z = un (BitVec.ofInt 64 z) := by
  simp only [IntKind.wrap, IntKind.bits, IntKind.signed, un, BitVec.toNat_ofInt]
  simp
  omega

@[simp] theorem add_un (x y : BitVec 64) : IntKind.u64.wrap (un x + un y) = un (x + y) := by
  rw [wrap_u64_bv, BitVec.ofInt_add, ofInt_un, ofInt_un]
@[simp] theorem sub_un (x y : BitVec 64) : IntKind.u64.wrap (un x - un y) = un (x - y) := by
  have h := x.isLt
  have h' := y.isLt
  rw [wrap_u64_bv]
  congr 1
  apply BitVec.eq_of_toNat_eq
  rw [BitVec.toNat_ofInt, BitVec.toNat_sub]
  simp only [un]
  omega
@[simp] theorem mul_un (x y : BitVec 64) : IntKind.u64.wrap (un x * un y) = un (x * y) := by
  rw [wrap_u64_bv, BitVec.ofInt_mul, ofInt_un, ofInt_un]

@[simp] theorem shl_un (x : BitVec 64) (k : Int) : shlI .u64 (un x) k = un (x <<< k.toNat) := by
  simp only [shlI, IntKind.bits]
  rw [show un x * 2 ^ (min k.toNat 64) = ((x.toNat * 2 ^ (min k.toNat 64) : Nat) : Int) by simp [un], wrap_u64_nat]
  simp only [un, BitVec.toNat_shiftLeft, Nat.shiftLeft_eq]
  congr 1
  by_cases hk : k.toNat ≤ 64
  · rw [Nat.min_eq_left hk]
  · rw [Nat.min_eq_right (by omega)]
    have h1 : x.toNat * 2 ^ 64 % 2 ^ 64 = 0 := Nat.mul_mod_left _ _
    have h2 : x.toNat * 2 ^ k.toNat % 2 ^ 64 = 0 := by
      rw [show k.toNat = (k.toNat - 64) + 64 by omega, Nat.pow_add, ← Nat.mul_assoc]
      exact Nat.mul_mod_left _ _
    rw [h1, h2]

@[simp] theorem shr_un (x : BitVec 64) (k : Int) : shrI .u64 (un x) k = un (x >>> k.toNat) := by
  simp only [shrI, IntKind.bits]
  rw [show (2 : Int) ^ (min k.toNat 64) = ((2 ^ (min k.toNat 64) : Nat) : Int) by simp, Int.fdiv_eq_ediv_of_nonneg _ (Int.natCast_nonneg _)]
  simp only [un, BitVec.toNat_ushiftRight, Nat.shiftRight_eq_div_pow]
  rw [← Int.natCast_ediv]
  congr 1
  by_cases hk : k.toNat ≤ 64
  · rw [Nat.min_eq_left hk]
  · rw [Nat.min_eq_right (by omega)]
    have hx := x.isLt
    rw [Nat.div_eq_of_lt hx, Nat.div_eq_of_lt (Nat.lt_of_lt_of_le hx (Nat.pow_le_pow_right (by decide) (by omega)))]

@[simp] theorem un_inj {x y : BitVec 64} : un x = un y ↔ x = y := by
  constructor
  · intro h; apply BitVec.eq_of_toNat_eq; simp only [un] at h; omega
  · rintro rfl; rfl
@[simp] theorem un_beq (x y : BitVec 64) : (un x == un y) = (x == y) := by
  rw [Bool.eq_iff_iff]; simp only [beq_iff_eq, un_inj]
@[simp] theorem un_bne (x y : BitVec 64) : (un x != un y) = (x != y) := by
  simp only [bne, un_beq]
@[simp] theorem un_bne0 (x : BitVec 64) : (un x != 0) = (x != 0#64) := un_bne x 0#64
@[simp] theorem un_beq0 (x : BitVec 64) : (un x == 0) = (x == 0#64) := un_beq x 0#64
@[simp] theorem un_bne1 (x : BitVec 64) : (un x != 1) = (x != 1#64) := un_bne x 1#64
@[simp] theorem un_beq1 (x : BitVec 64) : (un x == 1) = (x == 1#64) := un_beq x 1#64
@[simp] theorem un_eq0 (x : BitVec 64) : (un x = 0) ↔ (x = 0#64) := un_inj (y := 0#64)
@[simp] theorem un_eq1 (x : BitVec 64) : (un x = 1) ↔ (x = 1#64) := un_inj (y := 1#64)
theorem shl1_un (k : Int) : shlI .u64 1 k = un (1#64 <<< k.toNat) := shl_un 1#64 k
theorem sub1_un (x : BitVec 64) : IntKind.u64.wrap (un x - 1) = un (x - 1#64) := sub_un x 1#64
theorem band1_un (x : BitVec 64) : band .u64 (un x) 1 = un (x &&& 1#64) := band_un x 1#64
theorem un_zero : (0 : Int) = un 0#64 := rfl
theorem un_one : (1 : Int) = un 1#64 := rfl

end Go.AM
