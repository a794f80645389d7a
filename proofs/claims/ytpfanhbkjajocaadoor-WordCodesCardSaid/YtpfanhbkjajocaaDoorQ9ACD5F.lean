/-
  Own work, merged: PL, PLB, PLC, W0, W1, K1, K8.
-/
import Derived.AtR
import Derived.Below
import Derived.ChangeKeysEq
import Derived.KernelRfl
import Derived.LaidMore
import Derived.Laws.AppendOwn
import Derived.Laws.BytesString
import Derived.Laws.Cells
import Derived.Laws.CopyRow
import Derived.Laws.Entries
import Derived.Laws.IdiomStrings
import Derived.Laws.Rows
import Derived.Laws.Slices
import Derived.Laws.Small
import Derived.Laws.StructEq
import Derived.Lib.AppendIntMem
import Derived.Lib.ItoaMem
import Derived.Lib.ItoaNum
import Derived.Lib.LaidTab
import Derived.Lib.TrailingZeros
import Derived.Maps.AppendAt
import Derived.OpenShut
import Derived.Orders
import Derived.ProofKit
import Derived.RangeFuncRecord
import Derived.SevenTiedAt
import Derived.Shelf.Lay
import Derived.Shelf.Strconv.Itoa4
import Derived.Stop.Joined
import Derived.Test.YtpfanhbkjajocaaDoorCards
import Derived.Test.YtpfanhbkjajocaaDoorChecked
import Derived.Test.YtpfanhbkjajocaaDoorProg
import Derived.Test.YtpfanhbkjajocaaDoorRows
import Derived.Test.YtpfanhbkjajocaaDoorTie
import Derived.Test.YtpfanhbkjajocaaDoorQE18837
/-
  What the rows of this seat share: the listed table out of the row's condition; the witness's heap. Own work.
-/
namespace Go.Proofs.YtpfanhbkjajocaaDoor
open Go.ChangeShapes Go.WideShapes Go.ChangeAt Go.RowKit Go.AM

theorem Tryd.own : ownKnob Tryd.prog.godebug = none := by kernel_rfl
theorem Tryd.laidOut : laidOutB Tryd.prog = true := by kernel_rfl
theorem Tryd.gTab : Tryd.prog.globalNamed "math/bits.deBruijn64tab" = some 0 := by kernel_rfl
theorem Tryd.gTabType : (Tryd.prog.globals[0]?).map (·.type) = some 101 := by kernel_rfl

abbrev laidL : List (String × DataW Unit) := [("math/bits.deBruijn64tab", Rows.laid_math_bits_deBruijn64tab)]

theorem tab_of_laid {W : World} (h : laidMetH Tryd.prog laidL W) : TabAt W ∧ 0 < W.heap.size := by
  rw [MakeChecks.laidMetH_plain _ _ _ (by kernel_rfl)] at h
  have h1 : Lib.TabIs Tryd.prog W "math/bits.deBruijn64tab" .u8 (Lib.deBruijn64tab.map fun n : Nat => (n : Int)) :=
    Lib.tabIs_of_head Tryd.gTab Tryd.gTabType Tryd.underlying101 Tryd.underlying5 (by kernel_rfl) (by kernel_rfl) h
  have h2 : TabAt W := by
    intro j hj
    rw [World.var?_cell Tryd.gTab h1 j]
    have hl : Lib.deBruijn64tab.length = 64 := by decide
    simp [hl, hj, List.getD]
  exact ⟨h2, World.block_lt_of_cell? W _ (h2 0 (by decide))⟩

theorem door_met (os : Os) (args : Array Value) : laidMetH Tryd.prog laidL ((World.doorLaid Tryd.prog 24 os).forCall (fun _ _ => 0) ⟨#[], args, []⟩).memory :=
  laidMetH_of_parts3 (fuel := 8) (laidMet_of_run' 8 (by kernel_rfl) (by kernel_rfl)) (by kernel_rfl) (by kernel_rfl)
end Go.Proofs.YtpfanhbkjajocaaDoor

/-
  The rows that list three tables. Own work.
-/
namespace Go.Proofs.YtpfanhbkjajocaaDoor
open Go.ChangeShapes Go.WideShapes Go.ChangeAt Go.RowKit Go.AM

abbrev laidB : List (String × DataW Unit) := [("math/bits.deBruijn32tab", Rows.laid_math_bits_deBruijn32tab), ("math/bits.deBruijn64tab", Rows.laid_math_bits_deBruijn64tab), ("internal/strconv.uint64pow10", Rows.laid_internal_strconv_uint64pow10)]

abbrev laidC : List (String × DataW Unit) := [("math/bits.deBruijn64tab", Rows.laid_math_bits_deBruijn64tab), ("internal/strconv.uint64pow10", Rows.laid_internal_strconv_uint64pow10)]
theorem tab_of_laidB {W : World} (h : laidMetH Tryd.prog laidB W) : TabAt W ∧ 0 < W.heap.size := by
  rw [MakeChecks.laidMetH_plain _ _ _ (by kernel_rfl)] at h
  have ht : laidMet Tryd.prog laidC W := by
    obtain ⟨ps, ⟨_, _, _, _, p, q, _, _, _, _, hr, rfl⟩, hnd, hall⟩ := h
    exact ⟨q, hr, (List.nodup_append.1 hnd).2.1, fun b off hb => hall b off (List.mem_append_right _ hb)⟩
  have h1 : Lib.TabIs Tryd.prog W "math/bits.deBruijn64tab" .u8 (Lib.deBruijn64tab.map fun n : Nat => (n : Int)) :=
    Lib.tabIs_of_head Tryd.gTab Tryd.gTabType Tryd.underlying101 Tryd.underlying5 (by kernel_rfl) (by kernel_rfl) ht
  have h2 : TabAt W := by
    intro j hj
    rw [World.var?_cell Tryd.gTab h1 j]
    have hl : Lib.deBruijn64tab.length = 64 := by decide
    simp [hl, hj, List.getD]
  exact ⟨h2, World.block_lt_of_cell? W _ (h2 0 (by decide))⟩

theorem door_metB (os : Os) (args : Array Value) : laidMetH Tryd.prog laidB ((World.doorLaid Tryd.prog 24 os).forCall (fun _ _ => 0) ⟨#[], args, []⟩).memory :=
  laidMetH_of_parts3 (fuel := 8) (laidMet_of_run' 8 (by kernel_rfl) (by kernel_rfl)) (by kernel_rfl) (by kernel_rfl)
end Go.Proofs.YtpfanhbkjajocaaDoor

/-
  The table of strconv among what the rows list. Own work.
-/
namespace Go.Proofs.YtpfanhbkjajocaaDoor
open Go.ChangeShapes Go.WideShapes Go.ChangeAt Go.RowKit Go.AM

abbrev laidD : List (String × DataW Unit) := [("internal/strconv.uint64pow10", Rows.laid_internal_strconv_uint64pow10)]
theorem pow_of_laidB {W : World} (h : laidMetH Tryd.prog laidB W) : PowAt W := by
  rw [MakeChecks.laidMetH_plain _ _ _ (by kernel_rfl)] at h
  have ht : laidMet Tryd.prog laidC W := by
    obtain ⟨ps, ⟨_, _, _, _, p, q, _, _, _, _, hr, rfl⟩, hnd, hall⟩ := h
    exact ⟨q, hr, (List.nodup_append.1 hnd).2.1, fun b off hb => hall b off (List.mem_append_right _ hb)⟩
  have ht2 : laidMet Tryd.prog laidD W := by
    obtain ⟨ps, ⟨_, _, _, _, p, q, _, _, _, _, hr, rfl⟩, hnd, hall⟩ := ht
    exact ⟨q, hr, (List.nodup_append.1 hnd).2.1, fun b off hb => hall b off (List.mem_append_right _ hb)⟩
  exact Lib.tabIs_of_head (g := 1) (t := 119) (e := 22) (n := 20) (by kernel_rfl) (by kernel_rfl) Tryd.underlying119 Tryd.underlying22 (by kernel_rfl) (by kernel_rfl) ht2
end Go.Proofs.YtpfanhbkjajocaaDoor

/-
  What word.Take, word.Put and their references compute, in plain Lean, and that they are one. Own work.
-/
namespace Go.Proofs.YtpfanhbkjajocaaDoor
open Go.AM

/-- The byte at a place. -/
def tk (s : ByteArray) (i : Int) : Int := ((s[i.toNat]?.getD 0).toNat : Int)
theorem tk_nonneg (s : ByteArray) (i : Int) : 0 ≤ tk s i := Int.natCast_nonneg _
theorem tk_lt (s : ByteArray) (i : Int) : tk s i < 256 := by
  have := (s[i.toNat]?.getD 0).toNat_lt
  simp only [tk]; omega

abbrev T3 := Int × Int × Int
def err3 : T3 := (0, 0, 40)
def tv (x : T3) : Value := .tuple #[.int .i64 x.1, .int .i64 x.2.1, .int .i64 x.2.2]

/-- A code's value. -/
def decP (u : Int) : Int := bxor .i64 (IntKind.i64.wrap (shrI .u64 u 1)) (IntKind.i64.wrap (0 - IntKind.i64.wrap (band .u64 u 1)))
def decR (u : Int) : Int := if u.tmod 2 = 1 then IntKind.i64.wrap (IntKind.i64.wrap (0 - IntKind.i64.wrap (shrI .u64 u 1)) - 1) else IntKind.i64.wrap (shrI .u64 u 1)
def addP (u c : Int) (k : Nat) : Int := bor .u64 u (shlI .u64 (IntKind.u64.wrap (band .u8 c 127)) (7 * (k : Int)))
def addR (u c : Int) (k : Nat) : Int := bor .u64 u (shlI .u64 (IntKind.u64.wrap (c.tmod 128)) (7 * (k : Int)))

def takeP (s : ByteArray) (a : Int) : Nat → Nat → Int → T3
  | 0, _, _ => err3
  | d + 1, k, u =>
    if a + k < s.size then
      if k = 9 ∧ tk s (a + k) > 1 then err3
      else if tk s (a + k) < 128 then (if tk s (a + k) = 0 ∧ k > 0 then err3 else (decP (addP u (tk s (a + k)) k), (k : Int) + 1, 0))
      else takeP s a d (k + 1) (addP u (tk s (a + k)) k)
    else err3

def takeR (s : ByteArray) (a : Int) : Nat → Nat → Int → T3
  | 0, _, _ => err3
  | d + 1, k, u =>
    if a + k < s.size then
      if k = 9 ∧ (tk s (a + k)).tmod 128 > 1 then err3
      else if tk s (a + k) ≥ 128 then takeR s a d (k + 1) (addR u (tk s (a + k)) k)
      else if tk s (a + k) = 0 ∧ k > 0 then err3 else (decR (addR u (tk s (a + k)) k), (k : Int) + 1, 0)
    else err3

theorem band_byte (c : Int) (h0 : 0 ≤ c) (h1 : c < 256) : IntKind.u64.wrap (band .u8 c 127) = IntKind.u64.wrap (c.tmod 128) := by
  obtain ⟨n, rfl⟩ := Int.eq_ofNat_of_zero_le h0
  have hn : n < 256 := by omega
  have : ∀ n : Fin 256, IntKind.u64.wrap (band .u8 ((n.1 : Nat) : Int) 127) = IntKind.u64.wrap (((n.1 : Nat) : Int).tmod 128) := by decide +kernel
  exact this ⟨n, hn⟩

theorem addP_eq (u : Int) (s : ByteArray) (i : Int) (k : Nat) : addP u (tk s i) k = addR u (tk s i) k := by
  unfold addP addR
  rw [band_byte _ (tk_nonneg _ _) (tk_lt _ _)]

theorem addR_word (u : BitVec 64) (c : Int) (k : Nat) : ∃ v : BitVec 64, addR (un u) c k = un v := by
  unfold addR
  rw [wrap_u64_bv, shl_un, bor_un]
  exact ⟨_, rfl⟩

/-- A word as a signed number. -/
def sn (x : BitVec 64) : Int := x.toInt
theorem wrap_i64_bv (z : Int) : IntKind.i64.wrap z = sn (BitVec.ofInt 64 z) := by
  simp only [IntKind.wrap, IntKind.bits, IntKind.signed, sn, BitVec.toInt_ofInt, Int.bmod_def]
  simp
  split <;> omega
theorem ofInt_sn (x : BitVec 64) : BitVec.ofInt 64 (sn x) = x := by simp [sn]
theorem sn_of_un (x : BitVec 64) : IntKind.i64.wrap (un x) = sn x := by rw [wrap_i64_bv, ofInt_un]
theorem un_of_sn (x : BitVec 64) : IntKind.u64.wrap (sn x) = un x := by rw [wrap_u64_bv, ofInt_sn]
theorem bxor_sn (x y : BitVec 64) : bxor .i64 (sn x) (sn y) = sn (x ^^^ y) := by
  show IntKind.i64.wrap ((BitVec.ofInt 64 (sn x) ^^^ BitVec.ofInt 64 (sn y)).toNat : Int) = _
  rw [ofInt_sn, ofInt_sn]
  exact sn_of_un _
theorem neg_sn (x : BitVec 64) : IntKind.i64.wrap (0 - sn x) = sn (-x) := by
  rw [wrap_i64_bv]
  congr 1
  rw [show (0 : Int) - sn x = - sn x by omega, BitVec.ofInt_neg, ofInt_sn]
theorem sub_sn (x y : BitVec 64) : IntKind.i64.wrap (sn x - sn y) = sn (x - y) := by
  rw [wrap_i64_bv]
  congr 1
  rw [Int.sub_eq_add_neg, BitVec.ofInt_add, BitVec.ofInt_neg, ofInt_sn, ofInt_sn, BitVec.sub_eq_add_neg]
theorem one_sn : (1 : Int) = sn 1#64 := by decide
theorem sub1_sn (x : BitVec 64) : IntKind.i64.wrap (sn x - 1) = sn (x - 1#64) := by rw [one_sn]; exact sub_sn x 1#64

theorem tmod_un (u : BitVec 64) : (un u).tmod 2 = (u.toNat % 2 : Nat) := by
  rw [un, Int.tmod_eq_emod_of_nonneg (Int.natCast_nonneg _)]; rfl

theorem dec_eq (u : BitVec 64) : decP (un u) = decR (un u) := by
  unfold decP decR
  have e1 : shrI .u64 (un u) 1 = un (u >>> 1) := shr_un u 1
  rw [e1, sn_of_un, band1_un, sn_of_un, neg_sn, neg_sn, bxor_sn, tmod_un]
  rw [sub1_sn]
  have e2 : (-(u >>> 1) - 1#64) = ~~~(u >>> 1) := by
    rw [BitVec.neg_eq_not_add]; exact BitVec.add_sub_cancel _ _
  rw [e2]
  by_cases h : u.toNat % 2 = 1
  · rw [if_pos (by omega)]
    congr 1
    have : u &&& 1#64 = 1#64 := by
      apply BitVec.eq_of_toNat_eq
      simp [Nat.and_one_is_mod]; omega
    rw [this]
    have : -(1#64) = BitVec.allOnes 64 := by decide
    rw [this, BitVec.xor_allOnes]
  · rw [if_neg (by omega)]
    congr 1
    have : u &&& 1#64 = 0#64 := by
      apply BitVec.eq_of_toNat_eq
      simp [Nat.and_one_is_mod]; omega
    rw [this]
    simp

theorem take_err (s : ByteArray) (a : Int) (d : Nat) (u : Int) : takeR s a d 10 u = err3 ∨ d ≠ 0 := by
  cases d with
  | zero => exact .inl rfl
  | succ d => exact .inr (by omega)

theorem take_eq (s : ByteArray) (a : Int) : ∀ (d k : Nat) (u : BitVec 64), k + d = 10 → takeP s a d k (un u) = takeR s a d k (un u)
  | 0, _, _, _ => rfl
  | d + 1, k, u, hk => by
    unfold takeP takeR
    split
    · have h0 := tk_nonneg s (a + k)
      have h1 := tk_lt s (a + k)
      have hm : (tk s (a + k)).tmod 128 = tk s (a + k) % 128 := Int.tmod_eq_emod_of_nonneg h0
      rw [addP_eq, hm]
      obtain ⟨v, hv⟩ := addR_word u (tk s (a + k)) k
      rw [hv]
      by_cases c1 : tk s (a + k) < 128
      · rw [if_pos c1, if_neg (show ¬ tk s (a + k) ≥ 128 by omega), dec_eq, show tk s (a + k) % 128 = tk s (a + k) by omega]
      · rw [if_neg c1, if_pos (show tk s (a + k) ≥ 128 by omega)]
        by_cases c9 : k = 9
        · have hd : d = 0 := by omega
          subst hd
          simp only [takeP, takeR]
          split <;> split <;> rfl
        · rw [if_neg (by omega), if_neg (by omega)]
          exact take_eq s a d (k + 1) v (by omega)
    · rfl

/-! ### Put -/
def putGo : Nat → BitVec 64 → List Value
  | 0, u => [.int .u8 (IntKind.u8.wrap (un u))]
  | d + 1, u => if u.toNat ≥ 128 then .int .u8 (bor .u8 (IntKind.u8.wrap (un u)) 128) :: putGo d (u >>> 7) else [.int .u8 (IntKind.u8.wrap (un u))]

theorem u8_or (c : Int) (h0 : 0 ≤ c) (h1 : c < 256) : bor .u8 c 128 = IntKind.u8.wrap (c.tmod 128 + 128) := by
  obtain ⟨n, rfl⟩ := Int.eq_ofNat_of_zero_le h0
  have hn : n < 256 := by omega
  have : ∀ n : Fin 256, bor .u8 ((n.1 : Nat) : Int) 128 = IntKind.u8.wrap (((n.1 : Nat) : Int).tmod 128 + 128) := by decide +kernel
  exact this ⟨n, hn⟩

theorem wrap_u8 (z : Int) : IntKind.u8.wrap z = z % 256 := by
  simp only [IntKind.wrap, IntKind.bits, IntKind.signed]
  simp

theorem byte_eq (u : BitVec 64) : bor .u8 (IntKind.u8.wrap (un u)) 128 = IntKind.u8.wrap (IntKind.u8.wrap ((un u).tmod 128) + 128) := by
  have h0 := un_nonneg u
  have hm : (un u).tmod 128 = un u % 128 := Int.tmod_eq_emod_of_nonneg h0
  rw [u8_or _ (by rw [wrap_u8]; omega) (by rw [wrap_u8]; omega), wrap_u8, wrap_u8, wrap_u8, wrap_u8, hm, Int.tmod_eq_emod_of_nonneg (by omega)]
  omega

theorem quo_eq (u : BitVec 64) : IntKind.u64.wrap ((un u).tdiv 128) = un (u >>> 7) := by
  have h : (un u).tdiv 128 = un (u >>> 7) := by
    rw [Int.tdiv_eq_ediv_of_nonneg (un_nonneg u)]
    simp [un, Nat.shiftRight_eq_div_pow]
  rw [h, wrap_u64_bv, ofInt_un]

/-- The word that is put. -/
def zig (v : Int) : BitVec 64 := if v < 0 then ~~~(BitVec.ofInt 64 v <<< 1) else BitVec.ofInt 64 v <<< 1

theorem sn_ofInt {v : Int} (h : -9223372036854775808 ≤ v) (h' : v ≤ 9223372036854775807) : sn (BitVec.ofInt 64 v) = v := by
  rw [← wrap_i64_bv, wrap_i64 h h']

theorem shl1_sn (x : BitVec 64) : shlI .i64 (sn x) 1 = sn (x <<< 1) := by
  show IntKind.i64.wrap (sn x * 2 ^ 1) = _
  rw [wrap_i64_bv]
  congr 1
  rw [BitVec.ofInt_mul, ofInt_sn]
  apply BitVec.eq_of_toNat_eq
  simp [BitVec.toNat_mul, Nat.shiftLeft_eq]

theorem zigP {v : Int} (h : -9223372036854775808 ≤ v) (h' : v ≤ 9223372036854775807) : bxor .u64 (IntKind.u64.wrap (shlI .i64 v 1)) (IntKind.u64.wrap (shrI .i64 v 63)) = un (zig v) := by
  have e : shlI .i64 v 1 = sn (BitVec.ofInt 64 v <<< 1) := by
    rw [← shl1_sn, sn_ofInt h h']
  rw [e, un_of_sn]
  have e2 : shrI .i64 v 63 = if v < 0 then -1 else 0 := by
    show v.fdiv (2 ^ 63) = _
    rw [Int.fdiv_eq_ediv_of_nonneg _ (by decide)]
    split <;> omega
  rw [e2, zig]
  split
  · rw [show IntKind.u64.wrap (-1) = un (BitVec.allOnes 64) by decide, bxor_un, BitVec.xor_allOnes]
  · rw [show IntKind.u64.wrap 0 = un 0#64 by decide, bxor_un, BitVec.xor_zero]

theorem shl_wrap (v : Int) : shlI .u64 (IntKind.u64.wrap v) 1 = un (BitVec.ofInt 64 v <<< 1) := by
  rw [wrap_u64_bv]; exact shl_un _ 1

theorem not_un (x : BitVec 64) : bxor .u64 18446744073709551615 (un x) = un (~~~x) := by
  rw [show (18446744073709551615 : Int) = un (BitVec.allOnes 64) by decide, bxor_un, BitVec.allOnes_xor]

theorem putGo_last (d : Nat) (u : BitVec 64) (h : ¬ u.toNat ≥ 128) : putGo d u = [.int .u8 (IntKind.u8.wrap (un u))] := by
  cases d with
  | zero => rfl
  | succ d => rw [putGo, if_neg h]

theorem un_ge (u : BitVec 64) : 128 ≤ un u ↔ 128 ≤ u.toNat := by
  simp only [un]; omega

def putS (v : Int) : ByteArray := bstr (putGo 10 (zig v))
end Go.Proofs.YtpfanhbkjajocaaDoor

/-
  What word.Take and its reference do. Own work.
-/
namespace Go.Proofs.YtpfanhbkjajocaaDoor
open Go.AM
set_option maxRecDepth 100000

theorem wrap_7 {k : Nat} (h : k < 10) : IntKind.i64.wrap (7 * (k : Int)) = 7 * (k : Int) := by rw [wrap_i64] <;> omega

theorem take_ok (s : ByteArray) (a : Int) (w : World) (hs : s.size ≤ maxLen) : Gives Tryd.prog 58 [.string s, .int .i64 a] w (tv (if a < 0 ∨ a ≥ s.size then err3 else takeP s a 10 0 0)) := by
  refine Gives.of_run Tryd.func58 rfl (by show 2 ≤ 67; decide) ?_
  have hsz : (s.size : Int) ≤ 9223372036854775807 := by simp only [maxLen] at hs; omega
  by_cases h1 : a < 0
  · refine RunF_sound tab_ok noX_local 100 [true, true] _ _ rfl ?_ ?_
    · simp [h1]
    · refine Run.retL tab_ok Tryd.func58 rfl trivial (fun M => ?_)
      rw [if_pos (.inl h1)]; rfl
  by_cases h2 : a ≥ s.size
  · refine RunF_sound tab_ok noX_local 100 [false, true] _ _ rfl ?_ ?_
    · simp; omega
    · refine Run.retL tab_ok Tryd.func58 rfl trivial (fun M => ?_)
      rw [if_pos (.inr h2)]; rfl
  rw [if_neg (by omega)]
  generalize hR : takeP s a 10 0 0 = R
  refine RunF_sound tab_ok noX_local 100 [false, false] _ _ rfl ?_ ?_
  · simp; omega
  suffices H : ∀ (d k : Nat) (u : Int), k + d = 10 → a + k ≤ s.size → R = takeP s a d k u → ∀ σ, inT σ.t [(0, .v (.string s)), (1, .v (.int .i64 a)), (7, .v (.int .u64 u)), (8, .v (.int .i64 (k : Int)))] → inT σ.h [] → Run _ _ σ by
    exact H 10 0 0 (by omega) (by omega) hR.symm _ ⟨rfl, rfl, rfl, rfl, trivial⟩ trivial
  intro d
  induction d with
  | zero =>
    intro k u hk ha hv σ ht hh
    refine Run.to ?_ ht hh (n' := 0)
    refine RunF_sound tab_ok noX_local 100 [false] _ _ rfl ?_ ?_
    · simp; omega
    · refine Run.retL tab_ok Tryd.func58 rfl trivial (fun M => ?_)
      rw [hv]; rfl
  | succ d ih =>
    intro k u hk ha hv σ ht hh
    refine Run.to ?_ ht hh (n' := 0)
    have hw : IntKind.i64.wrap (a + k) = a + k := by rw [wrap_i64] <;> omega
    have hk1 : IntKind.i64.wrap ((k : Int) + 1) = (k : Int) + 1 := by rw [wrap_i64] <;> omega
    have hw7 := wrap_7 (k := k) (by omega)
    by_cases h3 : a + k < s.size
    · have hi : (a + k).toNat < s.size := by omega
      rw [takeP, if_pos h3] at hv
      have hb0 := tk_nonneg s (a + k)
      have htk : ((s[(a + (k : Int)).toNat]?.getD 0).toNat : Int) = tk s (a + k) := rfl
      have hm : bor .u64 u (shlI .u64 (IntKind.u64.wrap (band .u8 (((s[(IntKind.i64.wrap (a + (k : Int))).toNat]?.getD 0).toNat : Nat) : Int) 127)) (IntKind.i64.wrap (7 * (k : Int)))) = addP u (tk s (a + k)) k := by
        rw [hw, hw7]; rfl
      by_cases c9 : k = 9
      · by_cases c1 : tk s (a + k) > 1
        · rw [if_pos ⟨c9, c1⟩] at hv
          refine RunF_sound tab_ok noX_local 100 [true, true, true, true] _ _ rfl ?_ ?_
          · simp [hw, htk]; omega
          · refine Run.retL tab_ok Tryd.func58 rfl trivial (fun M => ?_)
            rw [hv]; rfl
        · rw [if_neg (by omega), if_pos (by omega)] at hv
          by_cases c0 : tk s (a + k) = 0
          · rw [if_pos (by omega)] at hv
            refine RunF_sound tab_ok noX_local 100 [true, true, true, false, true, true, true] _ _ rfl ?_ ?_
            · simp [hw, hw7, htk]; omega
            · refine Run.retL tab_ok Tryd.func58 rfl trivial (fun M => ?_)
              rw [hv]; rfl
          · rw [if_neg (by omega)] at hv
            refine RunF_sound tab_ok noX_local 100 [true, true, true, false, true, false] _ _ rfl ?_ ?_
            · simp [hw, hw7, htk]; omega
            · refine Run.retL tab_ok Tryd.func58 rfl trivial (fun M => ?_)
              rw [hv, ← hm]; show Value.tuple #[_, .int .i64 (IntKind.i64.wrap ((k : Int) + 1)), _] = _; rw [hk1]; rfl
      · rw [if_neg (by omega)] at hv
        by_cases c1 : tk s (a + k) < 128
        · rw [if_pos c1] at hv
          by_cases c0 : tk s (a + k) = 0
          · by_cases ck : k > 0
            · rw [if_pos ⟨c0, ck⟩] at hv
              refine RunF_sound tab_ok noX_local 100 [true, true, false, true, true, true] _ _ rfl ?_ ?_
              · simp [hw, hw7, htk]; omega
              · refine Run.retL tab_ok Tryd.func58 rfl trivial (fun M => ?_)
                rw [hv]; rfl
            · rw [if_neg (by omega)] at hv
              refine RunF_sound tab_ok noX_local 100 [true, true, false, true, true, false] _ _ rfl ?_ ?_
              · simp [hw, hw7, htk]; omega
              · refine Run.retL tab_ok Tryd.func58 rfl trivial (fun M => ?_)
                rw [hv, ← hm]; show Value.tuple #[_, .int .i64 (IntKind.i64.wrap ((k : Int) + 1)), _] = _; rw [hk1]; rfl
          · rw [if_neg (by omega)] at hv
            refine RunF_sound tab_ok noX_local 100 [true, true, false, true, false] _ _ rfl ?_ ?_
            · simp [hw, hw7, htk]; omega
            · refine Run.retL tab_ok Tryd.func58 rfl trivial (fun M => ?_)
              rw [hv, ← hm]; show Value.tuple #[_, .int .i64 (IntKind.i64.wrap ((k : Int) + 1)), _] = _; rw [hk1]; rfl
        · rw [if_neg c1] at hv
          refine RunF_sound tab_ok noX_local 100 [true, true, false, false] _ _ rfl ?_ ?_
          · simp [hw, hw7, htk]; omega
          exact ih (k + 1) _ (by omega) (by omega) hv _ ⟨rfl, rfl, congrArg (fun z => some (AV.v (.int .u64 z))) hm, i64_eq (wrap_succ (by omega)), trivial⟩ trivial
    · rw [takeP, if_neg h3] at hv
      refine RunF_sound tab_ok noX_local 100 [true, false] _ _ rfl ?_ ?_
      · simp [hw]; omega
      · refine Run.retL tab_ok Tryd.func58 rfl trivial (fun M => ?_)
        rw [hv]; rfl

theorem take_enters : Enters Tryd.prog 58 := enters_mk Tryd.func58 (by decide) rfl
end Go.Proofs.YtpfanhbkjajocaaDoor

/-
  What word.Put and its reference do. Own work.
-/
namespace Go.Proofs.YtpfanhbkjajocaaDoor
open Go.AM
set_option maxRecDepth 100000

theorem isU8 (l : List Value) (b : Int) (h : ∀ u ∈ l, u = .int .u8 (intOf u)) : ∀ u ∈ l ++ [.int .u8 b], u = .int .u8 (intOf u) := by
  intro u hu
  rcases List.mem_append.1 hu with h1 | h1
  · exact h u h1
  · simp only [List.mem_singleton] at h1; subst h1; rfl

theorem isU8' (l : List Value) (b : Int) (h : ∀ u ∈ l, u = .int .u8 (intOf u)) : ∀ u, u ∈ l ∨ u = .int .u8 b → u = .int .u8 (intOf u) := by
  rintro u (h1 | h1)
  · exact h u h1
  · subst h1; rfl

theorem shr7_lt {d : Nat} {u : BitVec 64} (h : u.toNat < 128 * 128 ^ (d + 1)) : (u >>> 7).toNat < 128 * 128 ^ d := by
  simp only [BitVec.toNat_ushiftRight, Nat.shiftRight_eq_div_pow]
  rw [Nat.div_lt_iff_lt_mul (by decide)]
  rw [Nat.pow_succ] at h
  omega

theorem put_ok (v : Int) (w : World) (h : -9223372036854775808 ≤ v) (h' : v ≤ 9223372036854775807) : Gives Tryd.prog 57 [.int .i64 v] w (.string (putS v)) := by
  refine Gives.of_run Tryd.func57 rfl (by show 1 ≤ 28; decide) ?_
  have hz := zigP h h'
  unfold putS
  generalize hR : putGo 10 (zig v) = R
  refine RunF_sound tab_ok noX_local 100 [] _ _ rfl ?_ ?_
  · simp
  suffices HB : ∀ (d n : Nat) (pre : List Value) (u : BitVec 64), n + d ≤ 11 → pre.length = n → (∀ x ∈ pre, x = .int .u8 (intOf x)) → u.toNat < 128 * 128 ^ d → R = pre ++ putGo d u →
      Run _ _ ⟨[(3, .v (.int .u64 (un u))), (4, .sl 0 1 0 n)], [(0, .row 5 1 n pre)], 1⟩ by
    by_cases c : (zig v).toNat ≥ 128
    · refine RunF_sound tab_ok noX_local 100 [true] _ _ rfl ?_ ?_
      · simp [hz, un_ge, c, maxLen, fillL, repL, splice, Value.cells, Value.oneCell']
      · refine Run.toR [(0, 1)] (HB 9 1 [.int .u8 (bor .u8 (IntKind.u8.wrap (un (zig v))) 128)] (zig v >>> 7) (by omega) rfl (by simp [intOf]) (shr7_lt (d := 9) (by have := (zig v).isLt; omega)) ?_) ⟨?_, rfl, trivial⟩ ⟨?_, trivial⟩ rfl
        · rw [← hR, putGo, if_pos c]; rfl
        · exact u64_eq (by rw [hz]; exact shr_un _ _)
        · rw [← hz]; rfl
    · refine RunF_sound tab_ok noX_local 100 [false] _ _ rfl ?_ ?_
      · simp [hz, un_ge, maxLen, fillL, repL, splice, Value.cells, Value.oneCell', intOf]; omega
      · refine Run.retP tab_ok Tryd.func57 rfl trivial (fun M => ?_)
        rw [← hR, putGo_last _ _ c, ← hz]; rfl
  intro d
  induction d with
  | zero => 
    intro n pre u hn hl hp hu hv
    have c : ¬ u.toNat ≥ 128 := by omega
    have htk : pre.take n = pre := by rw [← hl]; exact List.take_length
    have htk1 : ∀ x : Value, (pre ++ [x]).take (n + 1) = pre ++ [x] := fun x => List.take_of_length_le (by simp [hl])
    refine RunF_sound tab_ok noX_local 100 [false] _ _ rfl ?_ ?_
    · simp [un_ge, maxLen, fillL, repL, splice, Value.cells, Value.oneCell', htk, htk1]
      exact ⟨by omega, by omega, isU8' _ _ hp⟩
    · refine Run.retP tab_ok Tryd.func57 rfl trivial (fun M => ?_)
      rw [hv, putGo_last _ _ c]
      simp [conc, fillL, repL, splice, Value.cells, htk, htk1]
  | succ d ih => 
    intro n pre u hn hl hp hu hv
    have htk : pre.take n = pre := by rw [← hl]; exact List.take_length
    have htk1 : ∀ x : Value, (pre ++ [x]).take (n + 1) = pre ++ [x] := fun x => List.take_of_length_le (by simp [hl])
    by_cases c : u.toNat ≥ 128
    · refine RunF_sound tab_ok noX_local 100 [true] _ _ rfl ?_ ?_
      · simp [un_ge, c, maxLen, fillL, repL, splice, Value.cells, Value.oneCell']; omega
      · refine Run.toR [(0, 2)] (ih (n + 1) (pre ++ [.int .u8 (bor .u8 (IntKind.u8.wrap (un u)) 128)]) (u >>> 7) (by omega) (by simp [hl]) (isU8 _ _ hp) (shr7_lt hu) ?_) ⟨u64_eq (shr_un _ _), rfl, trivial⟩ ⟨?_, trivial⟩ rfl
        · rw [hv, putGo, if_pos c]; simp
        · refine congrArg (fun l => some (Blk.row 5 1 (n + 1) l)) ?_
          simp [fillL, repL, splice, Value.cells, htk]
    · refine RunF_sound tab_ok noX_local 100 [false] _ _ rfl ?_ ?_
      · simp [un_ge, maxLen, fillL, repL, splice, Value.cells, Value.oneCell', htk, htk1]
        exact ⟨by omega, by omega, isU8' _ _ hp⟩
      · refine Run.retP tab_ok Tryd.func57 rfl trivial (fun M => ?_)
        rw [hv, putGo_last _ _ c]
        simp [conc, fillL, repL, splice, Value.cells, htk, htk1]
theorem put_enters : Enters Tryd.prog 57 := enters_mk Tryd.func57 (by decide) rfl
theorem num_ok (n : Int) (w : World) : Gives Tryd.prog 56 [.int .i64 n] w (.int .i64 n) := by
  refine Gives.of_run Tryd.func56 rfl (by show 1 ≤ 4; decide) ?_
  refine RunF_sound tab_ok noX_local 100 [] _ _ rfl ?_ ?_
  · simp
  · exact Run.retP tab_ok Tryd.func56 rfl trivial (fun M => rfl)

theorem num_enters : Enters Tryd.prog 56 := enters_mk Tryd.func56 (by decide) rfl
end Go.Proofs.YtpfanhbkjajocaaDoor

/-
  Codes of values, in plain Lean: what is put is taken; what is taken was put so. Own work.
-/
namespace Go.Proofs.YtpfanhbkjajocaaDoor
open Go.AM

/-- The bytes of a number's code. -/
def cod : Nat → Nat → List Nat
  | 0, u => [u % 256]
  | d + 1, u => if u ≥ 128 then (u % 128 + 128) :: cod d (u / 128) else [u]

theorem cod_pos (d u : Nat) : 1 ≤ (cod d u).length := by
  cases d with
  | zero => exact Nat.le_refl _
  | succ d => unfold cod; split <;> simp
theorem cod_len : ∀ (d u : Nat), (cod d u).length ≤ d + 1
  | 0, u => Nat.le_refl _
  | d + 1, u => by
    unfold cod
    split
    · have := cod_len d (u / 128); simp; omega
    · simp

theorem byteOf_nat (n : Nat) (k : IntKind) : AM.byteOf (.int k (n : Int)) = UInt8.ofNat n := by
  simp [AM.byteOf]

theorem putGo_cod : ∀ (d : Nat) (u : BitVec 64), (putGo d u).map AM.byteOf = (cod d u.toNat).map UInt8.ofNat
  | 0, u => by
    simp only [putGo, cod, List.map_cons, List.map_nil]
    rw [show IntKind.u8.wrap (un u) = ((u.toNat % 256 : Nat) : Int) by rw [wrap_u8]; rfl, byteOf_nat]
  | d + 1, u => by
    unfold putGo cod
    by_cases h : u.toNat ≥ 128
    · rw [if_pos h, if_pos h, List.map_cons, List.map_cons, putGo_cod d (u >>> 7)]
      have e : (u >>> 7).toNat = u.toNat / 128 := by rw [BitVec.toNat_ushiftRight, Nat.shiftRight_eq_div_pow]
      rw [e]
      congr 1
      have e2 : bor .u8 (IntKind.u8.wrap (un u)) 128 = ((u.toNat % 128 + 128 : Nat) : Int) := by
        have h0 : IntKind.u8.wrap (un u) = ((u.toNat % 256 : Nat) : Int) := by rw [wrap_u8]; rfl
        rw [h0, u8_or _ (by omega) (by omega), wrap_u8, Int.tmod_eq_emod_of_nonneg (by omega)]
        omega
      rw [e2, byteOf_nat]
    · rw [if_neg h, if_neg h, List.map_cons, List.map_nil, List.map_cons, List.map_nil]
      rw [show IntKind.u8.wrap (un u) = ((u.toNat : Nat) : Int) by rw [wrap_u8]; unfold un; omega, byteOf_nat]

def codB (u : Nat) : List UInt8 := (cod 10 u).map UInt8.ofNat
theorem putS_cod (v : Int) : putS v = ⟨(codB (zig v).toNat).toArray⟩ := by
  unfold putS bstr codB
  rw [putGo_cod]

theorem zig_nat {v : Int} (h : -9223372036854775808 ≤ v) (h' : v ≤ 9223372036854775807) : ((zig v).toNat : Int) = if v < 0 then -2 * v - 1 else 2 * v := by
  unfold zig
  split
  · rename_i hn
    rw [BitVec.toNat_not, BitVec.toNat_shiftLeft, BitVec.toNat_ofInt, Nat.shiftLeft_eq]
    have : v % (2 ^ 64 : Nat) = v + 18446744073709551616 := by omega
    omega
  · rename_i hn
    rw [BitVec.toNat_shiftLeft, BitVec.toNat_ofInt, Nat.shiftLeft_eq]
    omega
theorem dec_nat (u : Nat) (h : u < 18446744073709551616) : decP (u : Int) = if u % 2 = 1 then -((u / 2 : Nat) : Int) - 1 else ((u / 2 : Nat) : Int) := by
  have e : (u : Int) = un (BitVec.ofNat 64 u) := by unfold un; rw [BitVec.toNat_ofNat, Nat.mod_eq_of_lt (by omega)]
  rw [e, dec_eq, ← e]
  unfold decR
  have hs : shrI .u64 (u : Int) 1 = ((u / 2 : Nat) : Int) := by
    show (u : Int).fdiv (2 ^ 1) = _
    rw [Int.fdiv_eq_ediv_of_nonneg _ (by decide)]; omega
  have hm : (u : Int).tmod 2 = ((u % 2 : Nat) : Int) := by rw [Int.tmod_eq_emod_of_nonneg (by omega)]; omega
  rw [hs, hm]
  by_cases c : u % 2 = 1
  · rw [if_pos (by omega), if_pos c, wrap_i64 (x := ((u / 2 : Nat) : Int)) (by omega) (by omega), wrap_i64 (x := 0 - ((u / 2 : Nat) : Int)) (by omega) (by omega), wrap_i64 (by omega) (by omega)]
    omega
  · rw [if_neg (by omega), if_neg c, wrap_i64 (by omega) (by omega)]
theorem dec_zig {v : Int} (h : -9223372036854775808 ≤ v) (h' : v ≤ 9223372036854775807) : decP ((zig v).toNat : Int) = v := by
  have h1 := zig_nat h h'
  have h2 := (zig v).isLt
  rw [dec_nat _ (by simpa using h2)]
  split at h1 <;> split <;> omega
theorem zig_dec (u : Nat) (h : u < 18446744073709551616) : (zig (decP (u : Int))).toNat = u ∧ -9223372036854775808 ≤ decP (u : Int) ∧ decP (u : Int) ≤ 9223372036854775807 := by
  have h1 := dec_nat u h
  have h2 : -9223372036854775808 ≤ decP (u : Int) ∧ decP (u : Int) ≤ 9223372036854775807 := by rw [h1]; split <;> omega
  refine ⟨?_, h2⟩
  have h3 := zig_nat h2.1 h2.2
  split at h1 <;> split at h3 <;> omega

/-- One byte more. -/
theorem addP_nat (U c k : Nat) (hc : c < 256) (hk : k ≤ 9) (hU : U < 128 ^ k) (hs : c % 128 * 128 ^ k + U < 18446744073709551616) : addP (U : Int) (c : Int) k = ((c % 128 * 128 ^ k + U : Nat) : Int) := by
  have h128 : 128 ^ k = 2 ^ (7 * k) := by rw [Nat.pow_mul]
  have hU64 : U < 18446744073709551616 := by omega
  unfold addP
  rw [band_byte _ (by omega) (by omega)]
  have hm : ((c : Int)).tmod 128 = ((c % 128 : Nat) : Int) := by rw [Int.tmod_eq_emod_of_nonneg (by omega)]; omega
  have e1 : IntKind.u64.wrap (((c : Int)).tmod 128) = un (BitVec.ofNat 64 (c % 128)) := by
    rw [hm, wrap_u64_bv]
    congr 1
  have e2 : (U : Int) = un (BitVec.ofNat 64 U) := by unfold un; rw [BitVec.toNat_ofNat, Nat.mod_eq_of_lt (by omega)]
  rw [e1, shl_un, e2, bor_un]
  unfold un
  congr 1
  rw [BitVec.toNat_or, BitVec.toNat_shiftLeft, BitVec.toNat_ofNat, BitVec.toNat_ofNat, Nat.mod_eq_of_lt (show U < 2 ^ 64 by omega), Nat.mod_eq_of_lt (show c % 128 < 2 ^ 64 by omega),
    show (7 * (k : Int)).toNat = 7 * k by omega, Nat.shiftLeft_eq, ← h128, Nat.mod_eq_of_lt (by omega), h128, ← Nat.shiftLeft_eq, Nat.or_comm, ← Nat.shiftLeft_add_eq_or_of_lt (h128 ▸ hU)]

def codAt (s : ByteArray) (a : Nat) (l : List Nat) : Prop := ∀ (j c : Nat), l[j]? = some c → tk s (a + j : Nat) = (c : Int) ∧ a + j < s.size

theorem codAt_tail {s : ByteArray} {a c : Nat} {l : List Nat} (h : codAt s a (c :: l)) : tk s (a : Nat) = (c : Int) ∧ a < s.size ∧ codAt s (a + 1) l := by
  have h0 := h 0 c rfl
  refine ⟨h0.1, h0.2, fun j x hx => ?_⟩
  have := h (j + 1) x hx
  rw [show a + 1 + j = a + (j + 1) by omega]
  exact this

theorem pow_step (k : Nat) : 128 ^ (k + 1) = 128 * 128 ^ k := by rw [Nat.pow_succ]; omega
theorem pow_9 {k : Nat} (hk : k ≤ 8) : 128 ^ (k + 1) ≤ 9223372036854775808 := by
  have := Nat.pow_le_pow_right (n := 128) (by decide) (show k + 1 ≤ 9 by omega)
  exact this

/-- What has been put is taken. -/
theorem take_put (s : ByteArray) (a : Nat) : ∀ (d k U x : Nat), k + d = 10 → U < 128 ^ k → x * 128 ^ k + U < 18446744073709551616 → (0 < k → 0 < x) → codAt s (a + k) (cod d x) →
    takeP s a d k (U : Int) = (decP ((x * 128 ^ k + U : Nat) : Int), ((k + (cod d x).length : Nat) : Int), 0)
  | 0, k, U, x, hk, hU, hs, hx, hb => by
    have hk10 : k = 10 := by omega
    subst hk10
    have := hx (by omega)
    have h2 : 1 * 128 ^ 10 ≤ x * 128 ^ 10 := Nat.mul_le_mul_right _ this
    have : (18446744073709551616 : Nat) ≤ 1 * 128 ^ 10 := by decide
    omega
  | d + 1, k, U, x, hk, hU, hs, hx, hb => by
    have hcast : ((a : Int) + (k : Int)) = ((a + k : Nat) : Int) := by omega
    unfold takeP
    rw [hcast]
    unfold cod at hb ⊢
    by_cases h : x ≥ 128
    · rw [if_pos h] at hb ⊢
      obtain ⟨t1, t2, t3⟩ := codAt_tail hb
      have hk8 : k ≤ 8 := by
        rcases Nat.lt_or_ge 8 k with h9 | h9
        · have h9' : k = 9 := by omega
          subst h9'
          have h2 : 128 * 128 ^ 9 ≤ x * 128 ^ 9 := Nat.mul_le_mul_right _ h
          have : (18446744073709551616 : Nat) ≤ 128 * 128 ^ 9 := by decide
          omega
        · exact h9
      have hp := pow_9 hk8
      rw [pow_step] at hp
      have hmod : x % 128 * 128 ^ k ≤ 127 * 128 ^ k := Nat.mul_le_mul_right _ (by omega)
      rw [t1, if_pos (by omega), if_neg (by omega), if_neg (by omega)]
      have hc : (x % 128 + 128) % 128 = x % 128 := by omega
      rw [addP_nat U (x % 128 + 128) k (by omega) (by omega) hU (by rw [hc]; omega), hc]
      have hsplit : x / 128 * 128 ^ (k + 1) + (x % 128 * 128 ^ k + U) = x * 128 ^ k + U := by
        rw [pow_step, ← Nat.mul_assoc, ← Nat.add_assoc, ← Nat.add_mul]
        congr 2
        omega
      rw [take_put s a d (k + 1) (x % 128 * 128 ^ k + U) (x / 128) (by omega) (by rw [pow_step]; omega) (by omega) (fun _ => by omega) t3, hsplit]
      simp only [List.length_cons]
      rw [show k + 1 + (cod d (x / 128)).length = k + ((cod d (x / 128)).length + 1) by omega]
    · rw [if_neg h] at hb ⊢
      obtain ⟨t1, t2, _⟩ := codAt_tail hb
      have h9 : ¬ (k = 9 ∧ (x : Int) > 1) := by
        rintro ⟨rfl, h1⟩
        have h2 : 2 * 128 ^ 9 ≤ x * 128 ^ 9 := Nat.mul_le_mul_right _ (by omega)
        have : (18446744073709551616 : Nat) ≤ 2 * 128 ^ 9 := by decide
        omega
      have h0 : ¬ ((x : Int) = 0 ∧ k > 0) := by rintro ⟨h1, h2⟩; have := hx h2; omega
      have hc : x % 128 = x := by omega
      rw [t1, if_pos (by omega), if_neg h9, if_pos (by omega), if_neg h0, addP_nat U x k (by omega) (by omega) hU (by rw [hc]; omega), hc]
      simp

/-- What has been taken was put so. -/
theorem take_was (s : ByteArray) (a : Nat) : ∀ (d k U : Nat) (v n : Int), k + d = 10 → U < 128 ^ k → takeP s a d k (U : Int) = (v, n, 0) →
    ∃ x : Nat, n = ((k + (cod d x).length : Nat) : Int) ∧ x * 128 ^ k + U < 18446744073709551616 ∧ (0 < k → 0 < x) ∧ codAt s (a + k) (cod d x) ∧ v = decP ((x * 128 ^ k + U : Nat) : Int)
  | 0, k, U, v, n, hk, hU, h => by cases h
  | d + 1, k, U, v, n, hk, hU, h => by
    have hcast : ((a : Int) + (k : Int)) = ((a + k : Nat) : Int) := by omega
    unfold takeP at h
    rw [hcast] at h
    by_cases c1 : ((a + k : Nat) : Int) < s.size
    · rw [if_pos c1] at h
      have hlt := tk_lt s ((a + k : Nat) : Int)
      obtain ⟨c, hc⟩ := Int.eq_ofNat_of_zero_le (tk_nonneg s ((a + k : Nat) : Int))
      rw [hc] at h hlt
      have hc256 : c < 256 := by omega
      by_cases c2 : k = 9 ∧ (c : Int) > 1
      · rw [if_pos c2] at h; cases h
      rw [if_neg c2] at h
      have hcm : c % 128 * 128 ^ k + U < 18446744073709551616 := by
        rcases Nat.lt_or_ge 8 k with h9 | h9
        · have h9' : k = 9 := by omega
          subst h9'
          have h1 : c ≤ 1 := by
            by_cases hcc : c ≤ 1
            · exact hcc
            · exact absurd ⟨rfl, by omega⟩ c2
          have h2 : c % 128 * 128 ^ 9 ≤ 1 * 128 ^ 9 := Nat.mul_le_mul_right _ (by omega)
          have h3 : (128 : Nat) ^ 9 = 9223372036854775808 := by decide
          rw [h3] at h2 hU ⊢
          omega
        · have hp := pow_9 h9
          rw [pow_step] at hp
          have hmod : c % 128 * 128 ^ k ≤ 127 * 128 ^ k := Nat.mul_le_mul_right _ (by omega)
          omega
      rw [addP_nat U c k hc256 (by omega) hU hcm] at h
      by_cases c3 : (c : Int) < 128
      · rw [if_pos c3] at h
        by_cases c4 : (c : Int) = 0 ∧ k > 0
        · rw [if_pos c4] at h; cases h
        rw [if_neg c4] at h
        have hcc : c % 128 = c := by omega
        rw [hcc] at h hcm
        simp only [Prod.mk.injEq, and_true] at h
        obtain ⟨rfl, rfl⟩ := h
        have hcod : cod (d + 1) c = [c] := by unfold cod; rw [if_neg (by omega)]
        refine ⟨c, by rw [hcod]; simp, hcm, fun hk0 => ?_, ?_, rfl⟩
        · rcases Nat.eq_zero_or_pos c with h0 | h0
          · exact absurd ⟨by omega, hk0⟩ c4
          · exact h0
        · rw [hcod]
          intro j y hj
          cases j with
          | zero =>
            simp at hj
            subst hj
            exact ⟨hc, by omega⟩
          | succ j => simp at hj
      · rw [if_neg c3] at h
        have hk8 : k ≤ 8 := by
          rcases Nat.lt_or_ge 8 k with h9 | h9
          · exact absurd ⟨by omega, by omega⟩ c2
          · exact h9
        have hp := pow_9 hk8
        rw [pow_step] at hp
        have hmod : c % 128 * 128 ^ k ≤ 127 * 128 ^ k := Nat.mul_le_mul_right _ (by omega)
        obtain ⟨y, e1, e2, e3, e4, e5⟩ := take_was s a d (k + 1) (c % 128 * 128 ^ k + U) v n (by omega) (by rw [pow_step]; omega) h
        have hy := e3 (by omega)
        have hsplit : (y * 128 + c % 128) * 128 ^ k + U = y * 128 ^ (k + 1) + (c % 128 * 128 ^ k + U) := by
          rw [pow_step, ← Nat.mul_assoc, ← Nat.add_assoc, ← Nat.add_mul]
        have hcod : cod (d + 1) (y * 128 + c % 128) = c :: cod d y := by
          unfold cod
          rw [if_pos (by omega)]
          rw [show (y * 128 + c % 128) % 128 + 128 = c by omega, show (y * 128 + c % 128) / 128 = y by omega]
          cases d <;> rfl
        refine ⟨y * 128 + c % 128, ?_, by rw [hsplit]; exact e2, fun _ => by omega, ?_, by rw [hsplit]; exact e5⟩
        · rw [hcod, e1]; simp only [List.length_cons]; omega
        · rw [hcod]
          intro j z hj
          cases j with
          | zero =>
            simp at hj
            subst hj
            exact ⟨hc, by omega⟩
          | succ j =>
            have := e4 j z (by simpa using hj)
            rw [show a + k + (j + 1) = a + (k + 1) + j by omega]
            exact this
    · rw [if_neg c1] at h; cases h
end Go.Proofs.YtpfanhbkjajocaaDoor
