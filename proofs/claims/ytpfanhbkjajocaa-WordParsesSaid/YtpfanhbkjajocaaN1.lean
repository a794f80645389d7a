/-
  digit, CutPrefix, Mul64, Add64. Own work; the walks of digit printed by a program of our own.
-/
import Derived.Test.YtpfanhbkjajocaaN0
import Derived.Test.YtpfanhbkjajocaaTab
namespace Go.Proofs.Ytpfanhbkjajocaa
open Go.AM
set_option maxRecDepth 100000

theorem u8w {c : Int} (h0 : 0 ≤ c) (h1 : c < 256) : IntKind.u8.wrap c = c := by rw [wrap_u8]; omega

theorem digit_ok (c b : Int) (h0 : 0 ≤ c) (h1 : c < 256) (w : World) : Gives Try.prog 17 [.int .u8 c, .int .u64 b] w (.tuple #[.int .u64 (dv c), .bool (decide (dv c < b))]) := by
  refine Gives.of_run Try.func17 rfl (by show 2 ≤ 43; decide) ?_
  by_cases x0 : c < 48
  · have hv : dv c = 99 := by unfold dv; (repeat' split) <;> omega
    refine RunF_sound tab_ok noX_local 100 [false, false, false] _ _ rfl ?_ ?_
    · simp
      (repeat' refine And.intro ?_ ?_) <;> omega
    refine Run.retL tab_ok Try.func17 rfl trivial (fun M => ?_)
    simp [resAV, conc, concL, hv]
  by_cases x1 : c ≤ 57
  · have hv : dv c = c - 48 := by unfold dv; (repeat' split) <;> omega
    have hw : IntKind.u8.wrap (c - 48) = c - 48 := u8w (by omega) (by omega)
    have hw2 : IntKind.u64.wrap (c - 48) = c - 48 := by rw [wrap_u64] <;> omega
    refine RunF_sound tab_ok noX_local 100 [true, true] _ _ rfl ?_ ?_
    · simp
      (repeat' refine And.intro ?_ ?_) <;> omega
    refine Run.retL tab_ok Try.func17 rfl trivial (fun M => ?_)
    simp [resAV, conc, concL, hw, hw2, hv]
  by_cases x2 : c < 65
  · have hv : dv c = 99 := by unfold dv; (repeat' split) <;> omega
    refine RunF_sound tab_ok noX_local 100 [true, false, false, false] _ _ rfl ?_ ?_
    · simp
      (repeat' refine And.intro ?_ ?_) <;> omega
    refine Run.retL tab_ok Try.func17 rfl trivial (fun M => ?_)
    simp [resAV, conc, concL, hv]
  by_cases x3 : c ≤ 70
  · have hv : dv c = c - 65 + 10 := by unfold dv; (repeat' split) <;> omega
    have hw : IntKind.u8.wrap (c - 65) = c - 65 := u8w (by omega) (by omega)
    have hw2 : IntKind.u64.wrap (c - 65) = c - 65 := by rw [wrap_u64] <;> omega
    have hw3 : IntKind.u64.wrap (c - 65 + 10) = c - 65 + 10 := by rw [wrap_u64] <;> omega
    refine RunF_sound tab_ok noX_local 100 [true, false, false, true, true] _ _ rfl ?_ ?_
    · simp
      (repeat' refine And.intro ?_ ?_) <;> omega
    refine Run.retL tab_ok Try.func17 rfl trivial (fun M => ?_)
    simp [resAV, conc, concL, hw, hw2, hw3, hv]
  by_cases x4 : c < 97
  · have hv : dv c = 99 := by unfold dv; (repeat' split) <;> omega
    refine RunF_sound tab_ok noX_local 100 [true, false, false, true, false] _ _ rfl ?_ ?_
    · simp
      (repeat' refine And.intro ?_ ?_) <;> omega
    refine Run.retL tab_ok Try.func17 rfl trivial (fun M => ?_)
    simp [resAV, conc, concL, hv]
  by_cases x5 : c ≤ 102
  · have hv : dv c = c - 97 + 10 := by unfold dv; (repeat' split) <;> omega
    have hw : IntKind.u8.wrap (c - 97) = c - 97 := u8w (by omega) (by omega)
    have hw2 : IntKind.u64.wrap (c - 97) = c - 97 := by rw [wrap_u64] <;> omega
    have hw3 : IntKind.u64.wrap (c - 97 + 10) = c - 97 + 10 := by rw [wrap_u64] <;> omega
    refine RunF_sound tab_ok noX_local 100 [true, false, true, true] _ _ rfl ?_ ?_
    · simp
      (repeat' refine And.intro ?_ ?_) <;> omega
    refine Run.retL tab_ok Try.func17 rfl trivial (fun M => ?_)
    simp [resAV, conc, concL, hw, hw2, hw3, hv]
  have hv : dv c = 99 := by unfold dv; (repeat' split) <;> omega
  refine RunF_sound tab_ok noX_local 100 [true, false, true, false, true, false] _ _ rfl ?_ ?_
  · simp
    (repeat' refine And.intro ?_ ?_) <;> omega
  refine Run.retL tab_ok Try.func17 rfl trivial (fun M => ?_)
  simp [resAV, conc, concL, hv]
theorem digit_enters : Enters Try.prog 17 := enters_mk Try.func17 (by decide) rfl

theorem digitR_ok (c b : Int) (h0 : 0 ≤ c) (h1 : c < 256) (hb0 : 0 ≤ b) (hb : b ≤ 99) (w : World) : Gives Try.prog 22 [.int .u8 c, .int .i64 b] w (.int .i64 (if dv c < b then dv c else -1)) := by
  refine Gives.of_run Try.func22 rfl (by show 2 ≤ 42; decide) ?_
  by_cases x0 : c < 48
  · have hv : dv c = 99 := by unfold dv; (repeat' split) <;> omega
    refine RunF_sound tab_ok noX_local 100 [false, false, false, false] _ _ rfl ?_ ?_
    · simp
      (repeat' refine And.intro ?_ ?_) <;> omega
    refine Run.retP tab_ok Try.func22 rfl trivial (fun M => ?_)
    have q : ¬ (99 < b) := by omega
    simp [resAV, conc, hv, q]
  by_cases x1 : c ≤ 57
  · have hv : dv c = c - 48 := by unfold dv; (repeat' split) <;> omega
    have hw : IntKind.u8.wrap (c - 48) = c - 48 := u8w (by omega) (by omega)
    have hw2 : IntKind.i64.wrap (c - 48) = c - 48 := by rw [wrap_i64] <;> omega
    by_cases q : c - 48 < b
    · refine RunF_sound tab_ok noX_local 100 [true, true, false] _ _ rfl ?_ ?_
      · simp [hw, hw2]
        (repeat' refine And.intro ?_ ?_) <;> omega
      refine Run.retP tab_ok Try.func22 rfl trivial (fun M => ?_)
      simp [resAV, conc, hw, hw2, hv, q]
    · refine RunF_sound tab_ok noX_local 100 [true, true, true] _ _ rfl ?_ ?_
      · simp [hw, hw2]
        (repeat' refine And.intro ?_ ?_) <;> omega
      refine Run.retP tab_ok Try.func22 rfl trivial (fun M => ?_)
      simp [resAV, conc, hv, q]
  by_cases x2 : c < 65
  · have hv : dv c = 99 := by unfold dv; (repeat' split) <;> omega
    refine RunF_sound tab_ok noX_local 100 [true, false, false, false, false] _ _ rfl ?_ ?_
    · simp
      (repeat' refine And.intro ?_ ?_) <;> omega
    refine Run.retP tab_ok Try.func22 rfl trivial (fun M => ?_)
    have q : ¬ (99 < b) := by omega
    simp [resAV, conc, hv, q]
  by_cases x3 : c ≤ 70
  · have hv : dv c = c - 65 + 10 := by unfold dv; (repeat' split) <;> omega
    have hw : IntKind.u8.wrap (c - 65) = c - 65 := u8w (by omega) (by omega)
    have hw2 : IntKind.i64.wrap (c - 65) = c - 65 := by rw [wrap_i64] <;> omega
    have hw3 : IntKind.i64.wrap (c - 65 + 10) = c - 65 + 10 := by rw [wrap_i64] <;> omega
    by_cases q : c - 65 + 10 < b
    · refine RunF_sound tab_ok noX_local 100 [true, false, false, true, true, false] _ _ rfl ?_ ?_
      · simp [hw, hw2, hw3]
        (repeat' refine And.intro ?_ ?_) <;> omega
      refine Run.retP tab_ok Try.func22 rfl trivial (fun M => ?_)
      simp [resAV, conc, hw, hw2, hw3, hv, q]
    · refine RunF_sound tab_ok noX_local 100 [true, false, false, true, true, true] _ _ rfl ?_ ?_
      · simp [hw, hw2, hw3]
        (repeat' refine And.intro ?_ ?_) <;> omega
      refine Run.retP tab_ok Try.func22 rfl trivial (fun M => ?_)
      simp [resAV, conc, hv, q]
  by_cases x4 : c < 97
  · have hv : dv c = 99 := by unfold dv; (repeat' split) <;> omega
    refine RunF_sound tab_ok noX_local 100 [true, false, false, true, false, false] _ _ rfl ?_ ?_
    · simp
      (repeat' refine And.intro ?_ ?_) <;> omega
    refine Run.retP tab_ok Try.func22 rfl trivial (fun M => ?_)
    have q : ¬ (99 < b) := by omega
    simp [resAV, conc, hv, q]
  by_cases x5 : c ≤ 102
  · have hv : dv c = c - 97 + 10 := by unfold dv; (repeat' split) <;> omega
    have hw : IntKind.u8.wrap (c - 97) = c - 97 := u8w (by omega) (by omega)
    have hw2 : IntKind.i64.wrap (c - 97) = c - 97 := by rw [wrap_i64] <;> omega
    have hw3 : IntKind.i64.wrap (c - 97 + 10) = c - 97 + 10 := by rw [wrap_i64] <;> omega
    by_cases q : c - 97 + 10 < b
    · refine RunF_sound tab_ok noX_local 100 [true, false, true, true, false] _ _ rfl ?_ ?_
      · simp [hw, hw2, hw3]
        (repeat' refine And.intro ?_ ?_) <;> omega
      refine Run.retP tab_ok Try.func22 rfl trivial (fun M => ?_)
      simp [resAV, conc, hw, hw2, hw3, hv, q]
    · refine RunF_sound tab_ok noX_local 100 [true, false, true, true, true] _ _ rfl ?_ ?_
      · simp [hw, hw2, hw3]
        (repeat' refine And.intro ?_ ?_) <;> omega
      refine Run.retP tab_ok Try.func22 rfl trivial (fun M => ?_)
      simp [resAV, conc, hv, q]
  have hv : dv c = 99 := by unfold dv; (repeat' split) <;> omega
  refine RunF_sound tab_ok noX_local 100 [true, false, true, false, true, false, false] _ _ rfl ?_ ?_
  · simp
    (repeat' refine And.intro ?_ ?_) <;> omega
  refine Run.retP tab_ok Try.func22 rfl trivial (fun M => ?_)
  have q : ¬ (99 < b) := by omega
  simp [resAV, conc, hv, q]
theorem digitR_enters : Enters Try.prog 22 := enters_mk Try.func22 (by decide) rfl


/-- The sign. -/
def dash : ByteArray := ⟨#[45]⟩
def strt (s : ByteArray) : Bool := decide (0 < s.size) && decide (tk s 0 = 45)

theorem list1 (x : UInt8) : (ByteArray.mk #[x]).toList = [x] := by
  unfold ByteArray.toList
  rw [ByteArray.toList.loop]
  have : (ByteArray.mk #[x]).size = 1 := rfl
  simp [this]
  rw [ByteArray.toList.loop]
  simp [this]
  rfl

theorem cut1 (s : ByteArray) (h : 0 < s.size) : ((s.extract 0 1).toList == dash.toList) = decide (tk s 0 = 45) := by
  have e : s.extract 0 1 = ⟨#[s[0]]⟩ := by
    apply ByteArray.ext
    apply Array.ext
    · simp; omega
    · intro i h1 h2
      simp at h2
      subst h2
      simp [ByteArray.getElem_eq_getElem_data]
  rw [e]
  have ht : tk s 0 = ((s[0]).toNat : Int) := by
    unfold tk
    rw [show (0 : Int).toNat = 0 from rfl, getElem?_pos s 0 h]; rfl
  rw [ht, dash, list1, list1, Bool.eq_iff_iff, beq_iff_eq, decide_eq_true_eq, List.cons.injEq]
  constructor
  · rintro ⟨h2, _⟩
    rw [h2]; rfl
  · intro h2
    refine ⟨?_, rfl⟩
    apply UInt8.toNat_inj.1
    have : (s[0]).toNat = 45 := by omega
    rw [this]; rfl

theorem hasPrefix_ok (s : ByteArray) (hs : s.size ≤ maxLen) (w : World) : Gives Try.prog 23 [.string s, .string dash] w (.bool (strt s)) := by
  refine Gives.of_run Try.func23 rfl (by show 2 ≤ 18; decide) ?_
  have h1 : dash.size = 1 := rfl
  by_cases c : 0 < s.size
  · refine RunF_sound tab_ok noX_local 100 [true] _ _ rfl ?_ ?_
    · simp [h1]; omega
    refine Run.retP tab_ok Try.func23 rfl trivial (fun M => ?_)
    have := cut1 s c
    simp [resAV, conc, h1, strt, c, this]
  · refine RunF_sound tab_ok noX_local 100 [false] _ _ rfl ?_ ?_
    · simp [h1]; omega
    refine Run.retP tab_ok Try.func23 rfl trivial (fun M => ?_)
    simp [resAV, conc, strt, c]
theorem hasPrefix_enters : Enters Try.prog 23 := enters_mk Try.func23 (by decide) rfl

def restS (s : ByteArray) : ByteArray := if strt s then s.extract 1 s.size else s

theorem cutPrefix0_ok (s : ByteArray) (hs : s.size ≤ maxLen) (w : World) : Gives Try.prog 21 [.string s, .string dash] w (.tuple #[.string (restS s), .bool (strt s)]) := by
  refine Gives.of_run Try.func21 rfl (by show 2 ≤ 15; decide) ?_
  have h1 : dash.size = 1 := rfl
  refine RunF_sound tab_ok noX_local 100 [] _ _ rfl ?_ ?_
  · simp
  refine Run.callFn noX_local rfl rfl rfl rfl rfl rfl rfl hasPrefix_enters rfl (fun w' _ => hasPrefix_ok s hs w') ?_
  by_cases c : strt s = true
  · have c0 : 0 < s.size := by unfold strt at c; simp at c; exact c.1
    refine RunF_sound tab_ok noX_local 100 [false] _ _ rfl ?_ ?_
    · simp [h1, c]; omega
    refine Run.retL tab_ok Try.func21 rfl trivial (fun M => ?_)
    simp [resAV, conc, concL, h1, restS, c]
  · refine RunF_sound tab_ok noX_local 100 [true] _ _ rfl ?_ ?_
    · simp [c]
    refine Run.retL tab_ok Try.func21 rfl trivial (fun M => ?_)
    simp [resAV, conc, concL, restS, c]
theorem cutPrefix0_enters : Enters Try.prog 21 := enters_mk Try.func21 (by decide) rfl

theorem cutPrefix_ok (s : ByteArray) (hs : s.size ≤ maxLen) (w : World) : Gives Try.prog 16 [.string s, .string dash] w (.tuple #[.string (restS s), .bool (strt s)]) := by
  refine Gives.of_run Try.func16 rfl (by show 2 ≤ 11; decide) ?_
  refine RunF_sound tab_ok noX_local 100 [] _ _ rfl ?_ ?_
  · simp
  refine Run.callFn noX_local rfl rfl rfl rfl rfl rfl rfl cutPrefix0_enters rfl (fun w' _ => cutPrefix0_ok s hs w') ?_
  refine RunF_sound tab_ok noX_local 100 [] _ _ rfl ?_ ?_
  · simp
  exact Run.retL tab_ok Try.func16 rfl trivial (fun M => rfl)
theorem cutPrefix_enters : Enters Try.prog 16 := enters_mk Try.func16 (by decide) rfl

theorem mask32 {x : Int} (h0 : 0 ≤ x) (h1 : x < 18446744073709551616) : band .u64 x 4294967295 = x % 4294967296 := by
  obtain ⟨n, rfl⟩ := Int.eq_ofNat_of_zero_le h0
  have e : ((n : Nat) : Int) = un (BitVec.ofNat 64 n) := by unfold un; rw [BitVec.toNat_ofNat, Nat.mod_eq_of_lt (by omega)]
  have e2 : (4294967295 : Int) = un 4294967295#64 := rfl
  show band .u64 ((n : Nat) : Int) 4294967295 = ((n : Nat) : Int) % 4294967296
  rw [e, e2, band_un]
  unfold un
  rw [BitVec.toNat_and, BitVec.toNat_ofNat, Nat.mod_eq_of_lt (by omega), show (4294967295#64).toNat = 2 ^ 32 - 1 from rfl, Nat.and_two_pow_sub_one_eq_mod]
  omega
theorem shift32 {x : Int} (h0 : 0 ≤ x) : shrI .u64 x 32 = x / 4294967296 := by
  unfold shrI
  rw [show min (32 : Int).toNat (IntKind.u64).bits = 32 from rfl, Int.fdiv_eq_ediv_of_nonneg _ (by decide)]
  rfl
theorem u64w {x : Int} (h0 : 0 ≤ x) (h1 : x < 18446744073709551616) : IntKind.u64.wrap x = x := by rw [wrap_u64] <;> omega

theorem wrap_u64m (z : Int) : IntKind.u64.wrap z = z % 18446744073709551616 := by
  simp only [IntKind.wrap, IntKind.signed, IntKind.bits]
  simp

theorem mul64_ok (x b : Int) (h0 : 0 ≤ x) (h1 : x < 18446744073709551616) (hb : b = 10 ∨ b = 16) (w : World) :
    Gives Try.prog 18 [.int .u64 x, .int .u64 b] w (.tuple #[.int .u64 (x * b / 18446744073709551616), .int .u64 (x * b % 18446744073709551616)]) := by
  refine Gives.of_run Try.func18 rfl (by show 2 ≤ 51; decide) ?_
  have m1 := mask32 h0 h1
  have m2 := shift32 h0
  rcases hb with rfl | rfl
  · have c1 : shrI .u64 10 32 = 0 := by decide
    have c2 : band .u64 10 4294967295 = 10 := by decide
    refine RunF_sound tab_ok noX_local 100 [] _ _ rfl ?_ ?_
    · simp
    refine Run.retL tab_ok Try.func18 rfl trivial (fun M => ?_)
    simp only [resAV, conc, concL, c1, c2, m1, m2]
    have w1 : IntKind.u64.wrap (x % 4294967296 * 10) = x % 4294967296 * 10 := u64w (by omega) (by omega)
    have w2 : IntKind.u64.wrap (x / 4294967296 * 10) = x / 4294967296 * 10 := u64w (by omega) (by omega)
    have s1 : shrI .u64 (x % 4294967296 * 10) 32 = x % 4294967296 * 10 / 4294967296 := shift32 (by omega)
    have w3 : IntKind.u64.wrap (x / 4294967296 * 10 + x % 4294967296 * 10 / 4294967296) = x / 4294967296 * 10 + x % 4294967296 * 10 / 4294967296 := u64w (by omega) (by omega)
    have s2 : shrI .u64 (x / 4294967296 * 10 + x % 4294967296 * 10 / 4294967296) 32 = (x / 4294967296 * 10 + x % 4294967296 * 10 / 4294967296) / 4294967296 := shift32 (by omega)
    have s3 : band .u64 (x / 4294967296 * 10 + x % 4294967296 * 10 / 4294967296) 4294967295 = (x / 4294967296 * 10 + x % 4294967296 * 10 / 4294967296) % 4294967296 := mask32 (by omega) (by omega)
    have w4 : IntKind.u64.wrap (x / 4294967296 * 0) = 0 := by rw [Int.mul_zero]; rfl
    have w5 : IntKind.u64.wrap (x % 4294967296 * 0) = 0 := by rw [Int.mul_zero]; rfl
    rw [w1, w2, s1, w3, s2, s3, w4, w5, Int.zero_add, Int.add_zero]
    have w6 : IntKind.u64.wrap ((x / 4294967296 * 10 + x % 4294967296 * 10 / 4294967296) / 4294967296) = (x / 4294967296 * 10 + x % 4294967296 * 10 / 4294967296) / 4294967296 := u64w (by omega) (by omega)
    have w7 : IntKind.u64.wrap ((x / 4294967296 * 10 + x % 4294967296 * 10 / 4294967296) % 4294967296) = (x / 4294967296 * 10 + x % 4294967296 * 10 / 4294967296) % 4294967296 := u64w (by omega) (by omega)
    have s4 : shrI .u64 ((x / 4294967296 * 10 + x % 4294967296 * 10 / 4294967296) % 4294967296) 32 = 0 := by rw [shift32 (by omega)]; omega
    rw [w6, w7, s4, Int.add_zero, w6, wrap_u64m, show (x / 4294967296 * 10 + x % 4294967296 * 10 / 4294967296) / 4294967296 = x * 10 / 18446744073709551616 by omega]
  · have c1 : shrI .u64 16 32 = 0 := by decide
    have c2 : band .u64 16 4294967295 = 16 := by decide
    refine RunF_sound tab_ok noX_local 100 [] _ _ rfl ?_ ?_
    · simp
    refine Run.retL tab_ok Try.func18 rfl trivial (fun M => ?_)
    simp only [resAV, conc, concL, c1, c2, m1, m2]
    have w1 : IntKind.u64.wrap (x % 4294967296 * 16) = x % 4294967296 * 16 := u64w (by omega) (by omega)
    have w2 : IntKind.u64.wrap (x / 4294967296 * 16) = x / 4294967296 * 16 := u64w (by omega) (by omega)
    have s1 : shrI .u64 (x % 4294967296 * 16) 32 = x % 4294967296 * 16 / 4294967296 := shift32 (by omega)
    have w3 : IntKind.u64.wrap (x / 4294967296 * 16 + x % 4294967296 * 16 / 4294967296) = x / 4294967296 * 16 + x % 4294967296 * 16 / 4294967296 := u64w (by omega) (by omega)
    have s2 : shrI .u64 (x / 4294967296 * 16 + x % 4294967296 * 16 / 4294967296) 32 = (x / 4294967296 * 16 + x % 4294967296 * 16 / 4294967296) / 4294967296 := shift32 (by omega)
    have s3 : band .u64 (x / 4294967296 * 16 + x % 4294967296 * 16 / 4294967296) 4294967295 = (x / 4294967296 * 16 + x % 4294967296 * 16 / 4294967296) % 4294967296 := mask32 (by omega) (by omega)
    have w4 : IntKind.u64.wrap (x / 4294967296 * 0) = 0 := by rw [Int.mul_zero]; rfl
    have w5 : IntKind.u64.wrap (x % 4294967296 * 0) = 0 := by rw [Int.mul_zero]; rfl
    rw [w1, w2, s1, w3, s2, s3, w4, w5, Int.zero_add, Int.add_zero]
    have w6 : IntKind.u64.wrap ((x / 4294967296 * 16 + x % 4294967296 * 16 / 4294967296) / 4294967296) = (x / 4294967296 * 16 + x % 4294967296 * 16 / 4294967296) / 4294967296 := u64w (by omega) (by omega)
    have w7 : IntKind.u64.wrap ((x / 4294967296 * 16 + x % 4294967296 * 16 / 4294967296) % 4294967296) = (x / 4294967296 * 16 + x % 4294967296 * 16 / 4294967296) % 4294967296 := u64w (by omega) (by omega)
    have s4 : shrI .u64 ((x / 4294967296 * 16 + x % 4294967296 * 16 / 4294967296) % 4294967296) 32 = 0 := by rw [shift32 (by omega)]; omega
    rw [w6, w7, s4, Int.add_zero, w6, wrap_u64m, show (x / 4294967296 * 16 + x % 4294967296 * 16 / 4294967296) / 4294967296 = x * 16 / 18446744073709551616 by omega]
theorem mul64_enters : Enters Try.prog 18 := enters_mk Try.func18 (by decide) rfl
end Go.Proofs.Ytpfanhbkjajocaa
