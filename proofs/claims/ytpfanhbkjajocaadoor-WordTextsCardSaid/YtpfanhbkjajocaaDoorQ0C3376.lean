/-
  Own work, merged: PL, PLB, PLC, J7, J8.
-/
import Derived.AtR
import Derived.Below
import Derived.ChangeKeysEq
import Derived.KernelRfl
import Derived.LaidMore
import Derived.Laws.AppendOwn
import Derived.Laws.BytesString
import Derived.Laws.Cells
import Derived.Laws.CopyRow
import Derived.Laws.Entries
import Derived.Laws.IdiomStrings
import Derived.Laws.Rows
import Derived.Laws.Slices
import Derived.Laws.Small
import Derived.Laws.StructEq
import Derived.Lib.AppendIntMem
import Derived.Lib.ItoaMem
import Derived.Lib.ItoaNum
import Derived.Lib.LaidTab
import Derived.Lib.TrailingZeros
import Derived.Maps.AppendAt
import Derived.OpenShut
import Derived.Orders
import Derived.ProofKit
import Derived.RangeFuncRecord
import Derived.SevenTiedAt
import Derived.Shelf.Lay
import Derived.Shelf.Strconv.Itoa4
import Derived.Stop.Joined
import Derived.Test.YtpfanhbkjajocaaDoorCards
import Derived.Test.YtpfanhbkjajocaaDoorChecked
import Derived.Test.YtpfanhbkjajocaaDoorProg
import Derived.Test.YtpfanhbkjajocaaDoorRows
import Derived.Test.YtpfanhbkjajocaaDoorTie
import Derived.Test.YtpfanhbkjajocaaDoorQ25E607
/-
  What the rows of this seat share: the listed table out of the row's condition; the witness's heap. Own work.
-/
namespace Go.Proofs.YtpfanhbkjajocaaDoor
open Go.ChangeShapes Go.WideShapes Go.ChangeAt Go.RowKit Go.AM

theorem Tryd.own : ownKnob Tryd.prog.godebug = none := by kernel_rfl
theorem Tryd.laidOut : laidOutB Tryd.prog = true := by kernel_rfl
theorem Tryd.gTab : Tryd.prog.globalNamed "math/bits.deBruijn64tab" = some 0 := by kernel_rfl
theorem Tryd.gTabType : (Tryd.prog.globals[0]?).map (·.type) = some 101 := by kernel_rfl

abbrev laidL : List (String × DataW Unit) := [("math/bits.deBruijn64tab", Rows.laid_math_bits_deBruijn64tab)]

theorem tab_of_laid {W : World} (h : laidMetH Tryd.prog laidL W) : TabAt W ∧ 0 < W.heap.size := by
  rw [MakeChecks.laidMetH_plain _ _ _ (by kernel_rfl)] at h
  have h1 : Lib.TabIs Tryd.prog W "math/bits.deBruijn64tab" .u8 (Lib.deBruijn64tab.map fun n : Nat => (n : Int)) :=
    Lib.tabIs_of_head Tryd.gTab Tryd.gTabType Tryd.underlying101 Tryd.underlying5 (by kernel_rfl) (by kernel_rfl) h
  have h2 : TabAt W := by
    intro j hj
    rw [World.var?_cell Tryd.gTab h1 j]
    have hl : Lib.deBruijn64tab.length = 64 := by decide
    simp [hl, hj, List.getD]
  exact ⟨h2, World.block_lt_of_cell? W _ (h2 0 (by decide))⟩

theorem door_met (os : Os) (args : Array Value) : laidMetH Tryd.prog laidL ((World.doorLaid Tryd.prog 24 os).forCall (fun _ _ => 0) ⟨#[], args, []⟩).memory :=
  laidMetH_of_parts3 (fuel := 8) (laidMet_of_run' 8 (by kernel_rfl) (by kernel_rfl)) (by kernel_rfl) (by kernel_rfl)
end Go.Proofs.YtpfanhbkjajocaaDoor

/-
  The rows that list three tables. Own work.
-/
namespace Go.Proofs.YtpfanhbkjajocaaDoor
open Go.ChangeShapes Go.WideShapes Go.ChangeAt Go.RowKit Go.AM

abbrev laidB : List (String × DataW Unit) := [("math/bits.deBruijn32tab", Rows.laid_math_bits_deBruijn32tab), ("math/bits.deBruijn64tab", Rows.laid_math_bits_deBruijn64tab), ("internal/strconv.uint64pow10", Rows.laid_internal_strconv_uint64pow10)]

abbrev laidC : List (String × DataW Unit) := [("math/bits.deBruijn64tab", Rows.laid_math_bits_deBruijn64tab), ("internal/strconv.uint64pow10", Rows.laid_internal_strconv_uint64pow10)]
theorem tab_of_laidB {W : World} (h : laidMetH Tryd.prog laidB W) : TabAt W ∧ 0 < W.heap.size := by
  rw [MakeChecks.laidMetH_plain _ _ _ (by kernel_rfl)] at h
  have ht : laidMet Tryd.prog laidC W := by
    obtain ⟨ps, ⟨_, _, _, _, p, q, _, _, _, _, hr, rfl⟩, hnd, hall⟩ := h
    exact ⟨q, hr, (List.nodup_append.1 hnd).2.1, fun b off hb => hall b off (List.mem_append_right _ hb)⟩
  have h1 : Lib.TabIs Tryd.prog W "math/bits.deBruijn64tab" .u8 (Lib.deBruijn64tab.map fun n : Nat => (n : Int)) :=
    Lib.tabIs_of_head Tryd.gTab Tryd.gTabType Tryd.underlying101 Tryd.underlying5 (by kernel_rfl) (by kernel_rfl) ht
  have h2 : TabAt W := by
    intro j hj
    rw [World.var?_cell Tryd.gTab h1 j]
    have hl : Lib.deBruijn64tab.length = 64 := by decide
    simp [hl, hj, List.getD]
  exact ⟨h2, World.block_lt_of_cell? W _ (h2 0 (by decide))⟩

theorem door_metB (os : Os) (args : Array Value) : laidMetH Tryd.prog laidB ((World.doorLaid Tryd.prog 24 os).forCall (fun _ _ => 0) ⟨#[], args, []⟩).memory :=
  laidMetH_of_parts3 (fuel := 8) (laidMet_of_run' 8 (by kernel_rfl) (by kernel_rfl)) (by kernel_rfl) (by kernel_rfl)
end Go.Proofs.YtpfanhbkjajocaaDoor

/-
  The table of strconv among what the rows list. Own work.
-/
namespace Go.Proofs.YtpfanhbkjajocaaDoor
open Go.ChangeShapes Go.WideShapes Go.ChangeAt Go.RowKit Go.AM

abbrev laidD : List (String × DataW Unit) := [("internal/strconv.uint64pow10", Rows.laid_internal_strconv_uint64pow10)]
theorem pow_of_laidB {W : World} (h : laidMetH Tryd.prog laidB W) : PowAt W := by
  rw [MakeChecks.laidMetH_plain _ _ _ (by kernel_rfl)] at h
  have ht : laidMet Tryd.prog laidC W := by
    obtain ⟨ps, ⟨_, _, _, _, p, q, _, _, _, _, hr, rfl⟩, hnd, hall⟩ := h
    exact ⟨q, hr, (List.nodup_append.1 hnd).2.1, fun b off hb => hall b off (List.mem_append_right _ hb)⟩
  have ht2 : laidMet Tryd.prog laidD W := by
    obtain ⟨ps, ⟨_, _, _, _, p, q, _, _, _, _, hr, rfl⟩, hnd, hall⟩ := ht
    exact ⟨q, hr, (List.nodup_append.1 hnd).2.1, fun b off hb => hall b off (List.mem_append_right _ hb)⟩
  exact Lib.tabIs_of_head (g := 1) (t := 119) (e := 22) (n := 20) (by kernel_rfl) (by kernel_rfl) Tryd.underlying119 Tryd.underlying22 (by kernel_rfl) (by kernel_rfl) ht2
end Go.Proofs.YtpfanhbkjajocaaDoor

/-
  strconv.FormatUint at base 16: its own text, walked. Own work.
-/
namespace Go.Proofs.YtpfanhbkjajocaaDoor
open Go.AM
set_option maxRecDepth 100000

theorem un_of (v : Nat) (h : v < 2 ^ 64) : (v : Int) = un (BitVec.ofNat 64 v) := by
  unfold un; rw [BitVec.toNat_ofNat, Nat.mod_eq_of_lt h]
theorem band15 (v : Nat) (h : v < 2 ^ 64) : band .u64 (v : Int) 15 = ((v % 16 : Nat) : Int) := by
  rw [un_of v h, show (15 : Int) = un 15#64 from rfl, band_un]
  unfold un
  rw [BitVec.toNat_and, BitVec.toNat_ofNat, Nat.mod_eq_of_lt h]
  have := Nat.and_two_pow_sub_one_eq_mod v 4
  exact congrArg (fun n : Nat => (n : Int)) this
theorem shr4 (v : Nat) (h : v < 2 ^ 64) : shrI .u64 (v : Int) 4 = ((v / 16 : Nat) : Int) := by
  rw [un_of v h, shr_un]
  unfold un
  rw [BitVec.toNat_ushiftRight, BitVec.toNat_ofNat, Nat.mod_eq_of_lt h, Nat.shiftRight_eq_div_pow]
  rfl

def byV (l : List UInt8) : List Value := l.map fun b => Value.int .u8 (b.toNat : Int)
def rowB (i : Nat) (acc : List UInt8) : List Value := List.replicate i (.int .u8 0) ++ byV acc
theorem rowB_len (i : Nat) (acc : List UInt8) : (rowB i acc).length = i + acc.length := by simp [rowB, byV]
theorem rowB_set (i : Nat) (acc : List UInt8) (b : UInt8) : (rowB (i + 1) acc).set i (.int .u8 (b.toNat : Int)) = rowB i (b :: acc) := by
  unfold rowB byV
  rw [List.replicate_succ', List.append_assoc, List.set_append_right _ _ (by simp)]
  simp
theorem rowB_drop (i : Nat) (acc : List UInt8) : (rowB i acc).drop i = acc.map fun b => Value.int .u8 (b.toNat : Int) := by
  unfold rowB byV
  rw [List.drop_append_of_le_length (by simp)]
  simp

abbrev D36 : ByteArray := ⟨#[48, 49, 50, 51, 52, 53, 54, 55, 56, 57, 97, 98, 99, 100, 101, 102, 103, 104, 105, 106, 107, 108, 109, 110, 111, 112, 113, 114, 115, 116, 117, 118, 119, 120, 121, 122]⟩
theorem dig_at (i : Nat) (h : i < 16) : D36[i]?.getD 0 = dgC i := by
  have key : ∀ i : Fin 16, D36[i.val]?.getD 0 = dgC i.val := by decide +kernel
  exact key ⟨i, h⟩

set_option maxHeartbeats 1000000 in
theorem bits16_ok (u : Nat) (hu : u < 2 ^ 64) (w : World) (hT : TabAt w) : Gives Tryd.prog 90 [.slice none 0 0, .int .u64 (u : Int), .int .i64 16, .bool false, .bool false] w (.tuple #[.slice none 0 0, .string ⟨(digB 16 u).toArray⟩]) := by
  refine Gives.of_run Tryd.func90 rfl (by show 5 ≤ 102; decide) ?_
  refine RunF_sound tab_ok noX_local 200 [false, false, false, false] _ _ rfl ?_ ?_
  · simp
    rfl
  refine Run.callFn (r := .bool true) noX_local rfl rfl rfl rfl rfl rfl rfl two_enters rfl (fun w' _ => two_ok w') ?_
  refine RunF_sound tab_ok noX_local 100 [true] _ _ rfl ?_ ?_
  · simp
  refine Run.callFn (r := .int .i64 4) noX_local rfl rfl rfl rfl rfl rfl rfl tz16_enters rfl (fun w' hA => tz16_ok w' (hT.agree hA (fun h => h))) ?_
  refine RunF_sound tab_ok noX_local 100 [] _ _ rfl ?_ ?_
  · simp
  suffices H : ∀ (v i : Nat) (acc : List UInt8), v < 2 ^ 64 → i + acc.length = 65 → (digB 16 v).length + acc.length ≤ 64 → digB 16 v ++ acc = digB 16 u →
      ∀ σ, inT σ.t [(1, .v (.int .u64 (v : Int))), (3, .v (.bool false)), (4, .v (.bool false)), (10, .v (.slice none 0 0)), (12, .ptr 0 0), (13, .v (.int .i64 (i : Int))), (14, .v (.int .u64 4)), (15, .v (.int .u64 16)), (16, .v (.int .u64 15))] →
      inT σ.h [(0, .cells 121 [.vals 65 (rowB i acc)])] → Run _ _ σ by
    exact H u 65 [] hu rfl (by have := digB_len (b := 16) (by decide) u 64 hu (by decide); simpa using this) (by simp) _ ⟨rfl, rfl, rfl, rfl, rfl, rfl, rfl, rfl, rfl, trivial⟩ ⟨rfl, trivial⟩
  intro v
  induction v using Nat.strongRecOn with
  | _ v ih =>
    intro i acc hv hi hl he σ ht hh
    refine Run.to ?_ ht hh (n' := 1)
    have hne : 1 ≤ (digB 16 v).length := List.length_pos_iff.2 (digB_ne (by decide))
    obtain ⟨i, rfl⟩ : ∃ j, i = j + 1 := ⟨i - 1, by omega⟩
    have hwi : IntKind.i64.wrap (((i + 1 : Nat) : Int) - 1) = (i : Int) := by rw [wrap_i64 (by omega) (by omega)]; omega
    have hi65 : i < 65 := by omega
    by_cases hvb : v < 16
    · have hset : (rowB (i + 1) acc).set (0 - 0 + ((i : Int)).toNat * 1) (.int .u8 ((D36[(v : Int).toNat]?.getD 0).toNat : Int)) = rowB i (dgC v :: acc) := by
        rw [Int.toNat_natCast, Int.toNat_natCast, dig_at v hvb, Nat.sub_zero, Nat.zero_add, Nat.mul_one]
        exact rowB_set i acc (dgC v)
      refine RunF_sound tab_ok noX_local 100 [false, false, false] _ _ rfl ?_ ?_
      · simp only [hwi]
        simp [okCell, Value.oneCell']
        exact ⟨by omega, Nat.lt_of_lt_of_le hvb (show 16 ≤ 36 by decide), by omega⟩
      simp only [hwi, hset]
      refine Run.arrStr (dgC v :: acc) (n := i) (N := 65) tab_ok rfl rfl rfl rfl rfl rfl rfl rfl rfl rfl rfl rfl rfl rfl rfl rfl rfl rfl (rowB_drop i _) (by simp at hi ⊢; omega) (by simp) ?_
      refine RunF_sound tab_ok noX_local 100 [] _ _ rfl ?_ ?_
      · simp
      refine Run.retL tab_ok Tryd.func90 rfl trivial (fun M => ?_)
      rw [← he, digB_lt hvb]
      rfl
    · have hb15 := band15 v hv
      have hs4 := shr4 v hv
      have hlt : v % 16 < 16 := Nat.mod_lt _ (by decide)
      have hset : (rowB (i + 1) acc).set (0 - 0 + ((i : Int)).toNat * 1) (.int .u8 ((D36[((v % 16 : Nat) : Int).toNat]?.getD 0).toNat : Int)) = rowB i (dgC (v % 16) :: acc) := by
        rw [Int.toNat_natCast, Int.toNat_natCast, dig_at _ hlt, Nat.sub_zero, Nat.zero_add, Nat.mul_one]
        exact rowB_set i acc (dgC (v % 16))
      refine RunF_sound tab_ok noX_local 100 [true] _ _ rfl ?_ ?_
      · simp only [hwi, hb15]
        simp [okCell, Value.oneCell']
        exact ⟨by omega, ⟨by omega, Nat.lt_of_lt_of_le hlt (show 16 ≤ 36 by decide)⟩, by omega⟩
      simp only [hwi, hb15, hset]
      have hd : digB 16 v = digB 16 (v / 16) ++ [dgC (v % 16)] := digB_ge (by omega) (by decide)
      refine ih (v / 16) (by omega) i (dgC (v % 16) :: acc) (by omega) (by simp at hi ⊢; omega) ?_ ?_ _ ⟨?_, rfl, rfl, rfl, rfl, rfl, rfl, rfl, rfl, trivial⟩ ⟨rfl, trivial⟩
      · rw [hd, List.length_append] at hl
        simp at hl ⊢
        omega
      · rw [← he, hd]; simp
      · refine congrArg (fun z => some (AV.v (Value.int .u64 z))) ?_
        exact hs4
end Go.Proofs.YtpfanhbkjajocaaDoor

/-
  A value's three texts. Own work.
-/
namespace Go.Proofs.YtpfanhbkjajocaaDoor
open Go.AM
set_option maxRecDepth 100000

theorem bits_enters : Enters Tryd.prog 90 := enters_mk Tryd.func90 (by decide) rfl
theorem uint16I_ok (u : Nat) (hu : u < 2 ^ 64) (w : World) (hT : TabAt w) : Gives Tryd.prog 81 [.int .u64 (u : Int), .int .i64 16] w (.string ⟨(digB 16 u).toArray⟩) := by
  refine Gives.of_run Tryd.func81 rfl (by show 2 ≤ 32; decide) ?_
  refine RunF_sound tab_ok noX_local 100 [false] _ _ rfl ?_ ?_
  · simp
  refine Run.callFn (r := .tuple #[.slice none 0 0, .string ⟨(digB 16 u).toArray⟩]) noX_local rfl rfl rfl rfl rfl rfl rfl bits_enters rfl (fun w' hA => bits16_ok u hu w' (hT.agree hA (fun h => h))) ?_
  refine RunF_sound tab_ok noX_local 100 [] _ _ rfl ?_ ?_
  · simp
  exact Run.retP tab_ok Tryd.func81 rfl trivial (fun M => rfl)
theorem uint16_ok (u : Nat) (hu : u < 2 ^ 64) (w : World) (hT : TabAt w) : Gives Tryd.prog 72 [.int .u64 (u : Int), .int .i64 16] w (.string ⟨(digB 16 u).toArray⟩) := by
  refine Gives.of_run Tryd.func72 rfl (by show 2 ≤ 8; decide) ?_
  refine RunF_sound tab_ok noX_local 100 [] _ _ rfl ?_ ?_
  · simp
  refine Run.callFn (r := .string ⟨(digB 16 u).toArray⟩) noX_local rfl rfl rfl rfl rfl rfl rfl uintI_enters rfl (fun w' hA => uint16I_ok u hu w' (hT.agree hA (fun h => h))) ?_
  refine RunF_sound tab_ok noX_local 100 [] _ _ rfl ?_ ?_
  · simp
  exact Run.retP tab_ok Tryd.func72 rfl trivial (fun M => rfl)

/-- What an int64 is as a uint64. -/
def uN (v : Int) : Nat := (IntKind.u64.wrap v).toNat
theorem uN_eq (v : Int) : IntKind.u64.wrap v = (uN v : Int) := by
  unfold uN; rw [IntKind.wrap_u64]; omega
theorem uN_lt (v : Int) : uN v < 2 ^ 64 := by
  unfold uN; rw [IntKind.wrap_u64]; omega

def textB (v : Int) : ByteArray := ⟨(Lib.itoa v).toArray⟩
def hexB (v : Int) : ByteArray := ⟨(48 :: 120 :: digB 16 (uN v)).toArray⟩
def unsB (v : Int) : ByteArray := ⟨(digB 10 (uN v)).toArray⟩

theorem wtext_ok (v : Int) (h0 : -9223372036854775808 ≤ v) (h1 : v ≤ 9223372036854775807) (w : World) (hP : PowAt w) : Gives Tryd.prog 40 [.int .i64 v] w (.string (textB v)) := by
  refine Gives.of_run Tryd.func40 rfl (by show 1 ≤ 5; decide) ?_
  refine RunF_sound tab_ok noX_local 100 [] _ _ rfl ?_ ?_
  · simp
  refine Run.callFn (r := .string (textB v)) noX_local rfl rfl rfl rfl rfl rfl rfl int_enters rfl (fun w' hA => int10_ok v h0 h1 w' (hP.agree hA)) ?_
  refine RunF_sound tab_ok noX_local 100 [] _ _ rfl ?_ ?_
  · simp
  exact Run.retP tab_ok Tryd.func40 rfl trivial (fun M => rfl)
theorem wtext_enters : Enters Tryd.prog 40 := enters_mk Tryd.func40 (by decide) rfl

theorem uns_ok (v : Int) (w : World) (hP : PowAt w) : Gives Tryd.prog 44 [.int .i64 v] w (.string (unsB v)) := by
  refine Gives.of_run Tryd.func44 rfl (by show 1 ≤ 6; decide) ?_
  refine RunF_sound tab_ok noX_local 100 [] _ _ rfl ?_ ?_
  · simp
  rw [uN_eq]
  refine Run.callFn (r := .string (unsB v)) noX_local rfl rfl rfl rfl rfl rfl rfl uint_enters rfl (fun w' hA => uint10_ok _ (uN_lt v) w' (hP.agree hA)) ?_
  refine RunF_sound tab_ok noX_local 100 [] _ _ rfl ?_ ?_
  · simp
  exact Run.retP tab_ok Tryd.func44 rfl trivial (fun M => rfl)
theorem uns_enters : Enters Tryd.prog 44 := enters_mk Tryd.func44 (by decide) rfl

theorem zx_app (l : List UInt8) : (⟨#[48, 120]⟩ : ByteArray) ++ ⟨l.toArray⟩ = ⟨(48 :: 120 :: l).toArray⟩ := by apply ByteArray.ext; simp
theorem mi_app (l : List UInt8) : (⟨#[45]⟩ : ByteArray) ++ ⟨l.toArray⟩ = ⟨(45 :: l).toArray⟩ := by apply ByteArray.ext; simp

theorem hex_ok (v : Int) (w : World) (hT : TabAt w) : Gives Tryd.prog 42 [.int .i64 v] w (.string (hexB v)) := by
  refine Gives.of_run Tryd.func42 rfl (by show 1 ≤ 7; decide) ?_
  refine RunF_sound tab_ok noX_local 100 [] _ _ rfl ?_ ?_
  · simp
  have hl := digB_len (b := 16) (by decide) (uN v) 64 (uN_lt v) (by decide)
  rw [uN_eq]
  refine Run.callFn (r := .string ⟨(digB 16 (uN v)).toArray⟩) noX_local rfl rfl rfl rfl rfl rfl rfl uint_enters rfl (fun w' hA => uint16_ok _ (uN_lt v) w' (hT.agree hA (fun h => h))) ?_
  have hsz : (⟨(digB 16 (uN v)).toArray⟩ : ByteArray).size = (digB 16 (uN v)).length := rfl
  have hsz2 : (⟨#[48, 120]⟩ : ByteArray).size = 2 := rfl
  refine RunF_sound tab_ok noX_local 100 [] _ _ rfl ?_ ?_
  · simp [hsz, hsz2]
    omega
  exact Run.retP tab_ok Tryd.func42 rfl trivial (fun M => congrArg Value.string (zx_app _))
theorem hex_enters : Enters Tryd.prog 42 := enters_mk Tryd.func42 (by decide) rfl

theorem in_enters : Enters Tryd.prog 71 := enters_mk Tryd.func71 (by decide) rfl
theorem unsR_ok (v : Int) (w : World) : Gives Tryd.prog 45 [.int .i64 v] w (.string (unsB v)) := by
  refine Gives.of_run Tryd.func45 rfl (by show 1 ≤ 6; decide) ?_
  refine RunF_sound tab_ok noX_local 100 [] _ _ rfl ?_ ?_
  · simp
  rw [uN_eq]
  refine Run.callFn (r := .string (unsB v)) noX_local rfl rfl rfl rfl rfl rfl rfl in_enters rfl (fun w' _ => in_ok 10 (by decide) (by decide) _ (uN_lt v) w') ?_
  refine RunF_sound tab_ok noX_local 100 [] _ _ rfl ?_ ?_
  · simp
  exact Run.retP tab_ok Tryd.func45 rfl trivial (fun M => rfl)
theorem unsR_enters : Enters Tryd.prog 45 := enters_mk Tryd.func45 (by decide) rfl
theorem hexR_ok (v : Int) (w : World) : Gives Tryd.prog 43 [.int .i64 v] w (.string (hexB v)) := by
  refine Gives.of_run Tryd.func43 rfl (by show 1 ≤ 7; decide) ?_
  refine RunF_sound tab_ok noX_local 100 [] _ _ rfl ?_ ?_
  · simp
  have hl := digB_len (b := 16) (by decide) (uN v) 64 (uN_lt v) (by decide)
  rw [uN_eq]
  refine Run.callFn (r := .string ⟨(digB 16 (uN v)).toArray⟩) noX_local rfl rfl rfl rfl rfl rfl rfl in_enters rfl (fun w' _ => in_ok 16 (by decide) (by decide) _ (uN_lt v) w') ?_
  have hsz : (⟨(digB 16 (uN v)).toArray⟩ : ByteArray).size = (digB 16 (uN v)).length := rfl
  have hsz2 : (⟨#[48, 120]⟩ : ByteArray).size = 2 := rfl
  refine RunF_sound tab_ok noX_local 100 [] _ _ rfl ?_ ?_
  · simp [hsz, hsz2]
    omega
  exact Run.retP tab_ok Tryd.func43 rfl trivial (fun M => congrArg Value.string (zx_app _))
theorem hexR_enters : Enters Tryd.prog 43 := enters_mk Tryd.func43 (by decide) rfl
theorem textR_ok (v : Int) (h0 : -9223372036854775808 ≤ v) (h1 : v ≤ 9223372036854775807) (w : World) : Gives Tryd.prog 41 [.int .i64 v] w (.string (textB v)) := by
  refine Gives.of_run Tryd.func41 rfl (by show 1 ≤ 13; decide) ?_
  by_cases hv : v < 0
  · have hn : IntKind.u64.wrap (0 - IntKind.u64.wrap v) = ((v.natAbs : Nat) : Int) := by rw [IntKind.wrap_u64, IntKind.wrap_u64]; omega
    have hlt : v.natAbs < 2 ^ 64 := by omega
    have hl := digB_len (b := 10) (by decide) v.natAbs 64 hlt (by decide)
    refine RunF_sound tab_ok noX_local 100 [true] _ _ rfl ?_ ?_
    · simp [hv]
    simp only [hn]
    refine Run.callFn (r := .string ⟨(digB 10 v.natAbs).toArray⟩) noX_local rfl rfl rfl rfl rfl rfl rfl in_enters rfl (fun w' _ => in_ok 10 (by decide) (by decide) _ hlt w') ?_
    have hsz : (⟨(digB 10 v.natAbs).toArray⟩ : ByteArray).size = (digB 10 v.natAbs).length := rfl
    have hsz2 : (⟨#[45]⟩ : ByteArray).size = 1 := rfl
    refine RunF_sound tab_ok noX_local 100 [] _ _ rfl ?_ ?_
    · simp [hsz, hsz2]
      omega
    refine Run.retP tab_ok Tryd.func41 rfl trivial (fun M => (congrArg Value.string (mi_app _)).trans ?_)
    unfold textB Lib.itoa
    rw [if_pos hv, digB_10]
  · have hn : IntKind.u64.wrap v = ((v.toNat : Nat) : Int) := by rw [IntKind.wrap_u64]; omega
    have hlt : v.toNat < 2 ^ 64 := by omega
    refine RunF_sound tab_ok noX_local 100 [false] _ _ rfl ?_ ?_
    · simp [hv]
    rw [hn]
    refine Run.callFn (r := .string ⟨(digB 10 v.toNat).toArray⟩) noX_local rfl rfl rfl rfl rfl rfl rfl in_enters rfl (fun w' _ => in_ok 10 (by decide) (by decide) _ hlt w') ?_
    refine RunF_sound tab_ok noX_local 100 [] _ _ rfl ?_ ?_
    · simp
    refine Run.retP tab_ok Tryd.func41 rfl trivial (fun M => ?_)
    unfold textB Lib.itoa
    rw [if_neg hv, digB_10]
    rfl
theorem textR_enters : Enters Tryd.prog 41 := enters_mk Tryd.func41 (by decide) rfl

theorem wordTexts_ok (v : Int) (h0 : -9223372036854775808 ≤ v) (h1 : v ≤ 9223372036854775807) (w : World) (hT : TabAt w) (hP : PowAt w) : Gives Tryd.prog 6 [.int .i64 v] w (.bool true) := by
  refine Gives.of_run Tryd.func6 rfl (by show 1 ≤ 22; decide) ?_
  refine RunF_sound tab_ok noX_local 100 [] _ _ rfl ?_ ?_
  · simp
  refine Run.callFn (r := .string (textB v)) noX_local rfl rfl rfl rfl rfl rfl rfl wtext_enters rfl (fun w' hA => wtext_ok v h0 h1 w' (hP.agree hA)) ?_
  refine RunF_sound tab_ok noX_local 100 [] _ _ rfl ?_ ?_
  · simp
  refine Run.callFn (r := .string (textB v)) noX_local rfl rfl rfl rfl rfl rfl rfl textR_enters rfl (fun w' hA => textR_ok v h0 h1 w') ?_
  generalize textB v = s1
  refine RunF_sound tab_ok noX_local 100 [true] _ _ rfl ?_ ?_
  · simp
  refine Run.callFn (r := .string (hexB v)) noX_local rfl rfl rfl rfl rfl rfl rfl hex_enters rfl (fun w' hA => hex_ok v w' (hT.agree hA (fun h => h))) ?_
  refine RunF_sound tab_ok noX_local 100 [] _ _ rfl ?_ ?_
  · simp
  refine Run.callFn (r := .string (hexB v)) noX_local rfl rfl rfl rfl rfl rfl rfl hexR_enters rfl (fun w' hA => hexR_ok v w') ?_
  generalize hexB v = s2
  refine RunF_sound tab_ok noX_local 100 [true] _ _ rfl ?_ ?_
  · simp
  refine Run.callFn (r := .string (unsB v)) noX_local rfl rfl rfl rfl rfl rfl rfl uns_enters rfl (fun w' hA => uns_ok v w' (hP.agree hA)) ?_
  refine RunF_sound tab_ok noX_local 100 [] _ _ rfl ?_ ?_
  · simp
  refine Run.callFn (r := .string (unsB v)) noX_local rfl rfl rfl rfl rfl rfl rfl unsR_enters rfl (fun w' hA => unsR_ok v w') ?_
  generalize unsB v = s3
  refine RunF_sound tab_ok noX_local 100 [] _ _ rfl ?_ ?_
  · simp
  refine Run.retP tab_ok Tryd.func6 rfl ?_ (fun M => ?_)
  · trivial
  · simp [conc]
end Go.Proofs.YtpfanhbkjajocaaDoor
