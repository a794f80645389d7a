/-
  math/bits.TrailingZeros64 and OnesCount64: their own text, walked. Own work.
-/
import Derived.Test.YtocpkgckllbjlaaDoorLBITS
import Derived.Test.YtocpkgckllbjlaaDoorAM18
import Derived.Test.YtocpkgckllbjlaaDoorTab
namespace Go.Proofs.YtocpkgckllbjlaaDoor
open Go.AM
set_option maxRecDepth 100000

/-- The table of math/bits as its initialiser lays it. -/
def TabAt (w : World) : Prop := ∀ j, j < 64 → w.cell? ⟨0, j, none⟩ = some (.int .u8 ((Go.Lib.deBruijn64tab.getD j 0 : Nat) : Int))

theorem TabAt.agree {S : Nat → Prop} {w w' : World} (h : TabAt w) (hA : Agree S w w') (hS : ¬ S 0) : TabAt w' := fun j hj => hA.cell (h j hj) hS

def tzI (x : BitVec 64) : Int := if x = 0#64 then 64 else (tz x : Int)

theorem neg_un (x : BitVec 64) : IntKind.u64.wrap (0 - un x) = un (-x) := by
  have := sub_un 0#64 x
  rw [show un 0#64 - un x = 0 - un x by simp [un]] at this
  rw [this]; simp

theorem low_bit (x : BitVec 64) (h : x ≠ 0#64) : x &&& -x = 1#64 <<< tz x := by
  have h0 : x.toNat ≠ 0 := fun e => h (BitVec.eq_of_toNat_eq (by simpa using e))
  obtain ⟨h1, h2⟩ := Go.Lib.lowest_bit 64 x.toNat h0 x.isLt
  have hk := tz_lt x h
  apply BitVec.eq_of_toNat_eq
  rw [BitVec.toNat_and, BitVec.toNat_neg, BitVec.toNat_shiftLeft]
  have h3 : (1#64).toNat = 1 := rfl
  rw [h3, Nat.shiftLeft_eq, Nat.one_mul, Nat.mod_eq_of_lt (show 2 ^ 64 - x.toNat < 2 ^ 64 by omega), h1]
  show 2 ^ tz x = _
  rw [Nat.mod_eq_of_lt (Nat.pow_lt_pow_right (by decide) hk)]

theorem tz_key (x : BitVec 64) (h : x ≠ 0#64) : ∃ idx : Nat, idx < 64 ∧ Go.Lib.deBruijn64tab.getD idx 0 = tz x ∧
    shrI .u64 (IntKind.u64.wrap (band .u64 (un x) (IntKind.u64.wrap (0 - un x)) * 285870213051353865)) 58 = (idx : Int) := by
  have hk := tz_lt x h
  obtain ⟨hi, htab⟩ := Go.Lib.deBruijn64_at (tz x) hk
  refine ⟨_, hi, htab, ?_⟩
  rw [neg_un, band_un, low_bit x h, show (285870213051353865 : Int) = un 285870213051353865#64 from rfl, mul_un, shr_un]
  unfold un
  rw [BitVec.toNat_ushiftRight, Nat.shiftRight_eq_div_pow, BitVec.toNat_mul, BitVec.toNat_shiftLeft, Nat.shiftLeft_eq]
  simp only [BitVec.toNat_ofNat, Nat.reducePow, Nat.reduceMod, Nat.one_mul, show Int.toNat 58 = 58 from rfl]
  have e : 2 ^ tz x % 18446744073709551616 = 2 ^ tz x := Nat.mod_eq_of_lt (by have := Nat.pow_lt_pow_right (a := 2) (by decide) hk; simpa using this)
  rw [e]

theorem tz_ok0 (w : World) : Gives Tryd.prog 72 [.int .u64 (un 0#64)] w (.int .i64 64) := by
  refine Gives.of_run Tryd.func72 rfl (by show 1 ≤ 14; decide) ?_
  refine RunF_sound tab_ok noX_local 100 [true] _ _ rfl ?_ ?_
  · simp [un]
  · exact Run.retP tab_ok Tryd.func72 rfl trivial (fun M => rfl)

theorem addr_idx (idx : Nat) : (⟨0, 0, none⟩ : Addr).add ((idx : Int).toNat * 1) = ⟨0, idx, none⟩ := by rw [add_lit']; simp

theorem tz_okp (y : Int) (idx : Nat) (k : Nat) (hy : y ≠ 0) (hi : idx < 64) (hk : k < 64) (w : World) (hc : w.cell? ⟨0, idx, none⟩ = some (.int .u8 (k : Int)))
    (key : shrI .u64 (IntKind.u64.wrap (band .u64 y (IntKind.u64.wrap (0 - y)) * 285870213051353865)) 58 = (idx : Int)) :
    Gives Tryd.prog 72 [.int .u64 y] w (.int .i64 (k : Int)) := by
  refine Gives.of_run Tryd.func72 rfl (by show 1 ≤ 14; decide) ?_
  refine RunF_sound tab_ok noX_local 100 [false] _ _ rfl ?_ ?_
  · rw [key, addr_idx, fnC_w0, hc]
    simp [hy]
    omega
  · rw [key, addr_idx, fnC_w0, hc]
    refine Run.retP tab_ok Tryd.func72 rfl trivial (fun M => ?_)
    simp only []
    rw [wrap_i64 (by omega) (by omega)]
    rfl

theorem tz_ok (x : BitVec 64) (w : World) (hT : TabAt w) : Gives Tryd.prog 72 [.int .u64 (un x)] w (.int .i64 (tzI x)) := by
  by_cases h : x = 0#64
  · subst h
    exact tz_ok0 w
  · obtain ⟨idx, hi, htab, key⟩ := tz_key x h
    have hc := hT idx hi
    rw [htab] at hc
    have := tz_okp (un x) idx (tz x) (by simpa using h) hi (tz_lt x h) w hc key
    rw [tzI, if_neg h]; exact this
theorem tz_enters : Enters Tryd.prog 72 := enters_mk Tryd.func72 (by decide) rfl

/-- What OnesCount64 reckons. -/
def onesW (x : BitVec 64) : BitVec 64 :=
  let a := (x >>> 1 &&& 6148914691236517205#64) + (x &&& 6148914691236517205#64)
  let b := (a >>> 2 &&& 3689348814741910323#64) + (a &&& 3689348814741910323#64)
  let c := (b >>> 4 + b) &&& 1085102592571150095#64
  let y := c + c >>> 8
  let z := y + y >>> 16
  z + z >>> 32

theorem onesW_pop (x : BitVec 64) : (onesW x).toNat % 128 = (bitsL x).length := by
  rw [← pop_bits, ← pop_swar x.toNat x.isLt]
  unfold onesW
  simp only [BitVec.toNat_add, BitVec.toNat_and, BitVec.toNat_ushiftRight, Nat.shiftRight_eq_div_pow, BitVec.toNat_ofNat, Nat.reducePow, Nat.reduceMod]

theorem band127 (z : BitVec 64) : band .i64 (IntKind.i64.wrap (un z)) 127 = ((z.toNat % 128 : Nat) : Int) := by
  have e1 : BitVec.ofInt 64 (IntKind.i64.wrap (un z)) = z := by
    apply BitVec.eq_of_toNat_eq
    have := z.isLt
    rw [BitVec.toNat_ofInt]
    simp only [IntKind.wrap, IntKind.bits, IntKind.signed, un]
    simp
    omega
  show IntKind.i64.wrap ((BitVec.ofInt 64 (IntKind.i64.wrap (un z)) &&& BitVec.ofInt 64 127).toNat : Int) = _
  rw [e1, BitVec.toNat_and, show (BitVec.ofInt 64 127).toNat = 2 ^ 7 - 1 from rfl, Nat.and_two_pow_sub_one_eq_mod]
  have := Nat.mod_lt z.toNat (show 0 < 2 ^ 7 by decide)
  simp only [Nat.reducePow] at this ⊢
  rw [wrap_i64] <;> omega

theorem ones_ok (x : BitVec 64) (w : World) : Gives Tryd.prog 73 [.int .u64 (un x)] w (.int .i64 ((bitsL x).length : Int)) := by
  refine Gives.of_run Tryd.func73 rfl (by show 1 ≤ 35; decide) ?_
  refine RunF_sound tab_ok noX_local 100 [] _ _ rfl ?_ ?_
  · simp
  · refine Run.retP tab_ok Tryd.func73 rfl trivial (fun M => ?_)
    show Value.int _ _ = _
    congr 1
    have c1 : (6148914691236517205 : Int) = un 6148914691236517205#64 := rfl
    have c2 : (3689348814741910323 : Int) = un 3689348814741910323#64 := rfl
    have c3 : (1085102592571150095 : Int) = un 1085102592571150095#64 := rfl
    rw [c1, c2, c3]
    simp only [shr_un, band_un, add_un]
    rw [← onesW_pop]
    exact band127 (onesW x)
theorem ones_enters : Enters Tryd.prog 73 := enters_mk Tryd.func73 (by decide) rfl
end Go.Proofs.YtocpkgckllbjlaaDoor
