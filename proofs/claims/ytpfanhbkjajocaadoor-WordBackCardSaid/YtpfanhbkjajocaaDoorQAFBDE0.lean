/-
  Own work, merged: J4, J6, J7, J8, J9, J13, J14.
-/
import Derived.AtR
import Derived.Below
import Derived.ChangeKeysEq
import Derived.KernelRfl
import Derived.Laws.AppendOwn
import Derived.Laws.BytesString
import Derived.Laws.Cells
import Derived.Laws.CopyRow
import Derived.Laws.Entries
import Derived.Laws.Externs
import Derived.Laws.IdiomStrings
import Derived.Laws.Rows
import Derived.Laws.Slices
import Derived.Laws.Small
import Derived.Laws.StructEq
import Derived.Lib.AppendIntMem
import Derived.Lib.ItoaMem
import Derived.Lib.ItoaNum
import Derived.Lib.TrailingZeros
import Derived.Maps.AppendAt
import Derived.Orders
import Derived.RangeFuncRecord
import Derived.Shelf.Lay
import Derived.Shelf.Strconv.Itoa4
import Derived.Test.YtpfanhbkjajocaaDoorChecked
import Derived.Test.YtpfanhbkjajocaaDoorProg
import Derived.Test.YtpfanhbkjajocaaDoorQ0E05AB
/-
  strconv.FormatUint at base 10: the numeral. Turned after the shelf's walks of FormatInt and AppendUint at base 10.
-/
namespace Go.Proofs
open Go.Shelf Go.RowKit Go.Sort Go.Lib

set_option maxHeartbeats 6400000 in
set_option maxRecDepth 100000 in
theorem Tryd.uint10_small (i : Nat) (hi : i < 100) (w : World) :
    Calls Tryd.prog 81 #[.int .u64 i, .int .i64 10] w fun e w' => e = .returned (.string ⟨(Lib.decDigits i).toArray⟩) ∧ w' = w := by
  have L := Tryd.laysM173
  have mixed := L.mixed
  have t22 := Tryd.underlying22; have a22 := Tryd.isAgg22; have z22 := Tryd.sizeOf22; have v22 := Tryd.zeroValue22
  have t3 := Tryd.underlying3; have a3 := Tryd.isAgg3; have z3 := Tryd.sizeOf3; have v3 := Tryd.zeroValue3
  have t9 := Tryd.underlying9; have a9 := Tryd.isAgg9; have z9 := Tryd.sizeOf9; have v9 := Tryd.zeroValue9
  have e87 : ∀ args w, (callFunc 87 args).run Tryd.prog w = .ok (.enter 87 args) w := enters_of Tryd.func87 (by kernel_rfl) rfl
  have hsm : ∀ W, Calls Tryd.prog 87 #[.int .i64 i] W fun e w' => e = .returned (.string ⟨(Lib.decDigits i).toArray⟩) ∧ w' = W := fun W => Any.internal_strconv_small { L with } i hi W
  go_enter Tryd.func81, Tryd.ntmps81
  go_wp2_with (go_at_fn 87; refine (hsm _).mono ?_; rintro e w' ⟨rfl, rfl⟩)
  go_ret
  exact ⟨rfl, rfl⟩

set_option maxHeartbeats 6400000 in
set_option maxRecDepth 100000 in
theorem Tryd.uint10_big (u : Nat) (hu : 100 ≤ u) (hu64 : u < 18446744073709551616) (w : World) (htab : Lib.TabIs Tryd.prog w "internal/strconv.uint64pow10" .u64 Lib.pow10Tab) :
    Calls Tryd.prog 81 #[.int .u64 u, .int .i64 10] w fun e w' => e = .returned (.string ⟨(Lib.decDigits u).toArray⟩) ∧ ∃ k os, w' = grow (w.drewN k) os := by
  have L := Tryd.laysM173
  have mixed := L.mixed
  have t22 := Tryd.underlying22; have a22 := Tryd.isAgg22; have z22 := Tryd.sizeOf22; have v22 := Tryd.zeroValue22
  have t3 := Tryd.underlying3; have a3 := Tryd.isAgg3; have z3 := Tryd.sizeOf3; have v3 := Tryd.zeroValue3
  have t9 := Tryd.underlying9; have a9 := Tryd.isAgg9; have z9 := Tryd.sizeOf9; have v9 := Tryd.zeroValue9
  have t5 := Tryd.underlying5; have a5 := Tryd.isAgg5; have z5 := Tryd.sizeOf5; have v5 := Tryd.zeroValue5
  have t92 := Tryd.underlying92; have a92 := Tryd.isAgg92; have z92 := Tryd.sizeOf92; have v92 := Tryd.zeroValue92
  have t111 := Tryd.underlying111; have a111 := Tryd.isAgg111; have z111 := Tryd.sizeOf111; have v111 := Tryd.zeroValue111
  have e88 : ∀ args w, (callFunc 88 args).run Tryd.prog w = .ok (.enter 88 args) w := enters_of Tryd.func88 (by kernel_rfl) rfl
  have e89 : ∀ args w, (callFunc 89 args).run Tryd.prog w = .ok (.enter 89 args) w := enters_of Tryd.func89 (by kernel_rfl) rfl
  have hu1 : 1 ≤ u := by omega
  have hnd20 : Lib.nDigits u ≤ 20 := by have := Lib.numDigits_eq u hu1 hu64; split at this <;> omega
  have hal : Tryd.prog.arrayLen 111 = 24 := by simp [Program.arrayLen, t111]
  have hsl : ∀ W, (Instr.sliceAt 111 (.pointer (some ⟨w.heap.size, 0, none⟩)) none (some (.int .i64 (Lib.nDigits u : Int))) none).run Tryd.prog W = .ok (.slice (some ⟨w.heap.size, 0, none⟩) (Lib.nDigits u) 24) W := fun W => by
    rw [run_sliceAt_array_h W 111 ⟨w.heap.size, 0, none⟩ (by simp [Program.arrayLen, Program.elem, t111]) .i64 (Lib.nDigits u : Int) (by omega) (by rw [hal]; omega)]
    go_simp
  have hH0 := Lib.holds_zero0 w 111 (Lib.nDigits u) (by omega)
  have hfmt : Calls Tryd.prog 89 #[.slice (some ⟨w.heap.size, 0, none⟩) (Array.replicate (Lib.nDigits u) (0 : UInt8)).size 24, .int .u64 u] (w.alloc (.cells Lib.zeros24 111)) fun e w' =>
      e = .returned (.tuple #[]) ∧ ∃ (n v' : Nat) (dk : Array UInt8), w' = (putRow (fun (b : UInt8) => Value.int .u8 (b.toNat : Int)) (w.alloc (.cells Lib.zeros24 111)) w.heap.size 0 dk).drewN n ∧ FmtInv (Array.replicate (Lib.nDigits u) (0 : UInt8)).size u 0 v' dk :=
    Any.internal_strconv_formatBase10 { L with } w.heap.size 0 24 u (Array.replicate (Lib.nDigits u) 0) (w.alloc (.cells Lib.zeros24 111)) hH0 (by rw [Array.size_replicate]; exact Lib.lt_pow_nDigits u) hu64 (by rw [Array.size_replicate]; omega)
  rw [Array.size_replicate] at hfmt
  have hnum : ∀ W, Lib.TabIs Tryd.prog W "internal/strconv.uint64pow10" .u64 Lib.pow10Tab → Calls Tryd.prog 88 #[.int .u64 u] W fun e w' => e = .returned (.int .i64 (Lib.nDigits u)) ∧ w' = W := fun W h => Any.internal_strconv_numDigits { L with } u hu1 hu64 W h
  have HH0 := Lib.hid hH0
  have iu : (100 : Int) ≤ (u : Int) := by omega
  clear hH0 hal L
  go_enter Tryd.func81, Tryd.ntmps81
  go_wp2_with (first
    | (go_at_fn 88; refine (hnum _ (Lib.tabIs_alloc htab _)).mono ?_; rintro e w' ⟨rfl, rfl⟩))
  go_at_fn 89
  refine hfmt.mono ?_
  rintro e w' ⟨rfl, k, v', dk, rfl, hF⟩
  have hcv : (convert 92 9 (.slice (some ⟨w.heap.size, 0, none⟩) (Lib.nDigits u) 24)).run Tryd.prog ((putRow (fun (b : UInt8) => Value.int .u8 (b.toNat : Int)) (w.alloc (.cells Lib.zeros24 111)) w.heap.size 0 dk).drewN k) = .ok (.string ⟨(Lib.decDigits u).toArray⟩) ((putRow (fun (b : UInt8) => Value.int .u8 (b.toNat : Int)) (w.alloc (.cells Lib.zeros24 111)) w.heap.size 0 dk).drewN k) := by
    have h := run_convert_bytes_back (P := Tryd.prog) ((putRow (fun (b : UInt8) => Value.int .u8 (b.toNat : Int)) (w.alloc (.cells Lib.zeros24 111)) w.heap.size 0 dk).drewN k) 92 9 5 ⟨w.heap.size, 0, none⟩ 24 (Lib.decDigits u) t92 t5 t9 (fun j hj => by
      rw [Lib.row_is_numeral hF j hj, Lib.add_plain, World.cell?_drewN]
      exact cell?_putRow (fun (b : UInt8) => Value.int .u8 (b.toNat : Int)) _ w.heap.size 0 _ dk HH0.out (by rw [hF.size, Array.size_replicate]) j (by rw [hF.size]; rw [Lib.decDigits_length] at hj; exact hj))
    rw [Lib.decDigits_length] at h
    exact h
  go_wp2
  go_ret
  obtain ⟨os, eo⟩ := Lib.fin_at w (.cells Lib.zeros24 111) dk k 0
  exact ⟨rfl, k, os, eo⟩
end Go.Proofs

/-
  strconv.FormatInt and FormatUint, as our calls know them; at base 16 its own text is walked. Own work.
-/
namespace Go.Proofs.YtpfanhbkjajocaaDoor
open Go.AM
set_option maxRecDepth 100000

/-- The table of strconv as its initialiser lays it. -/
def PowAt (w : World) : Prop := Lib.TabIs Tryd.prog w "internal/strconv.uint64pow10" .u64 Lib.pow10Tab
theorem PowAt.agree {w w' : World} (h : PowAt w) (hA : Agree (fun _ => False) w w') : PowAt w' := Lib.tabBelow_of_tabIs h w' hA.below

theorem grow_agree (w : World) (k : Nat) (os : Array Obj) : Agree (fun _ => False) w (Sort.grow (w.drewN k) os) := Agree.of_below (Lib.below_grow w.heap.size w (Nat.le_refl _) k os)

theorem uint10I_ok (u : Nat) (hu : u < 2 ^ 64) (w : World) (hP : PowAt w) : Gives Tryd.prog 81 [.int .u64 (u : Int), .int .i64 10] w (.string ⟨(digB 10 u).toArray⟩) := by
  rw [digB_10]
  rcases Nat.lt_or_ge u 100 with h | h
  · exact Calls.mono' (Tryd.uint10_small u h w) fun e w' ⟨h1, h2⟩ => ⟨h1, by rw [h2]; exact Agree.refl _ _⟩
  · exact Calls.mono' (Tryd.uint10_big u h hu w hP) fun e w' ⟨h1, k, os, h2⟩ => ⟨h1, by rw [h2]; exact grow_agree w k os⟩
theorem uintI_enters : Enters Tryd.prog 81 := enters_mk Tryd.func81 (by decide) rfl

theorem uint10_ok (u : Nat) (hu : u < 2 ^ 64) (w : World) (hP : PowAt w) : Gives Tryd.prog 72 [.int .u64 (u : Int), .int .i64 10] w (.string ⟨(digB 10 u).toArray⟩) := by
  refine Gives.of_run Tryd.func72 rfl (by show 2 ≤ 8; decide) ?_
  refine RunF_sound tab_ok noX_local 100 [] _ _ rfl ?_ ?_
  · simp
  refine Run.callFn (r := .string ⟨(digB 10 u).toArray⟩) noX_local rfl rfl rfl rfl rfl rfl rfl uintI_enters rfl (fun w' hA => uint10I_ok u hu w' (hP.agree hA)) ?_
  refine RunF_sound tab_ok noX_local 100 [] _ _ rfl ?_ ?_
  · simp
  exact Run.retP tab_ok Tryd.func72 rfl trivial (fun M => rfl)
theorem uint_enters : Enters Tryd.prog 72 := enters_mk Tryd.func72 (by decide) rfl

theorem int10_ok (n : Int) (h0 : -9223372036854775808 ≤ n) (h1 : n ≤ 9223372036854775807) (w : World) (hP : PowAt w) : Gives Tryd.prog 70 [.int .i64 n, .int .i64 10] w (.string ⟨(Lib.itoa n).toArray⟩) :=
  Calls.mono' (Any.strconv_FormatInt_10 Tryd.laysM173 n h0 h1 w hP) fun e w' ⟨h1, k, os, h2⟩ => ⟨h1, by rw [h2]; exact grow_agree w k os⟩
theorem int_enters : Enters Tryd.prog 70 := enters_mk Tryd.func70 (by decide) rfl

theorem two_ok (w : World) : Gives Tryd.prog 97 [.int .i64 16] w (.bool true) := by
  refine Gives.of_run Tryd.func97 rfl (by show 1 ≤ 8; decide) ?_
  refine RunF_sound tab_ok noX_local 100 [] _ _ rfl ?_ ?_
  · simp
  exact Run.retP tab_ok Tryd.func97 rfl trivial (fun M => rfl)
theorem two_enters : Enters Tryd.prog 97 := enters_mk Tryd.func97 (by decide) rfl

theorem tz64_enters : Enters Tryd.prog 62 := enters_mk Tryd.func62 (by decide) rfl
theorem tz16_ok (w : World) (hT : TabAt w) : Gives Tryd.prog 98 [.int .u64 16] w (.int .i64 4) := by
  refine Gives.of_run Tryd.func98 rfl (by show 1 ≤ 8; decide) ?_
  refine RunF_sound tab_ok noX_local 100 [] _ _ rfl ?_ ?_
  · simp
  refine Run.callFn (r := .int .i64 4) noX_local rfl rfl rfl rfl rfl rfl rfl tz64_enters rfl (fun w' hA => ?_) ?_
  · have := tz_ok 16#64 w' (hT.agree hA (fun h => h))
    have e : tzI 16#64 = 4 := by decide +kernel
    rw [e] at this
    exact this
  refine RunF_sound tab_ok noX_local 100 [] _ _ rfl ?_ ?_
  · simp
  exact Run.retP tab_ok Tryd.func98 rfl trivial (fun M => rfl)
theorem tz16_enters : Enters Tryd.prog 98 := enters_mk Tryd.func98 (by decide) rfl
end Go.Proofs.YtpfanhbkjajocaaDoor

/-
  strconv.FormatUint at base 16: its own text, walked. Own work.
-/
namespace Go.Proofs.YtpfanhbkjajocaaDoor
open Go.AM
set_option maxRecDepth 100000

theorem un_of (v : Nat) (h : v < 2 ^ 64) : (v : Int) = un (BitVec.ofNat 64 v) := by
  unfold un; rw [BitVec.toNat_ofNat, Nat.mod_eq_of_lt h]
theorem band15 (v : Nat) (h : v < 2 ^ 64) : band .u64 (v : Int) 15 = ((v % 16 : Nat) : Int) := by
  rw [un_of v h, show (15 : Int) = un 15#64 from rfl, band_un]
  unfold un
  rw [BitVec.toNat_and, BitVec.toNat_ofNat, Nat.mod_eq_of_lt h]
  have := Nat.and_two_pow_sub_one_eq_mod v 4
  exact congrArg (fun n : Nat => (n : Int)) this
theorem shr4 (v : Nat) (h : v < 2 ^ 64) : shrI .u64 (v : Int) 4 = ((v / 16 : Nat) : Int) := by
  rw [un_of v h, shr_un]
  unfold un
  rw [BitVec.toNat_ushiftRight, BitVec.toNat_ofNat, Nat.mod_eq_of_lt h, Nat.shiftRight_eq_div_pow]
  rfl

def byV (l : List UInt8) : List Value := l.map fun b => Value.int .u8 (b.toNat : Int)
def rowB (i : Nat) (acc : List UInt8) : List Value := List.replicate i (.int .u8 0) ++ byV acc
theorem rowB_len (i : Nat) (acc : List UInt8) : (rowB i acc).length = i + acc.length := by simp [rowB, byV]
theorem rowB_set (i : Nat) (acc : List UInt8) (b : UInt8) : (rowB (i + 1) acc).set i (.int .u8 (b.toNat : Int)) = rowB i (b :: acc) := by
  unfold rowB byV
  rw [List.replicate_succ', List.append_assoc, List.set_append_right _ _ (by simp)]
  simp
theorem rowB_drop (i : Nat) (acc : List UInt8) : (rowB i acc).drop i = acc.map fun b => Value.int .u8 (b.toNat : Int) := by
  unfold rowB byV
  rw [List.drop_append_of_le_length (by simp)]
  simp

abbrev D36 : ByteArray := ⟨#[48, 49, 50, 51, 52, 53, 54, 55, 56, 57, 97, 98, 99, 100, 101, 102, 103, 104, 105, 106, 107, 108, 109, 110, 111, 112, 113, 114, 115, 116, 117, 118, 119, 120, 121, 122]⟩
theorem dig_at (i : Nat) (h : i < 16) : D36[i]?.getD 0 = dgC i := by
  have key : ∀ i : Fin 16, D36[i.val]?.getD 0 = dgC i.val := by decide +kernel
  exact key ⟨i, h⟩

set_option maxHeartbeats 1000000 in
theorem bits16_ok (u : Nat) (hu : u < 2 ^ 64) (w : World) (hT : TabAt w) : Gives Tryd.prog 90 [.slice none 0 0, .int .u64 (u : Int), .int .i64 16, .bool false, .bool false] w (.tuple #[.slice none 0 0, .string ⟨(digB 16 u).toArray⟩]) := by
  refine Gives.of_run Tryd.func90 rfl (by show 5 ≤ 102; decide) ?_
  refine RunF_sound tab_ok noX_local 200 [false, false, false, false] _ _ rfl ?_ ?_
  · simp
    rfl
  refine Run.callFn (r := .bool true) noX_local rfl rfl rfl rfl rfl rfl rfl two_enters rfl (fun w' _ => two_ok w') ?_
  refine RunF_sound tab_ok noX_local 100 [true] _ _ rfl ?_ ?_
  · simp
  refine Run.callFn (r := .int .i64 4) noX_local rfl rfl rfl rfl rfl rfl rfl tz16_enters rfl (fun w' hA => tz16_ok w' (hT.agree hA (fun h => h))) ?_
  refine RunF_sound tab_ok noX_local 100 [] _ _ rfl ?_ ?_
  · simp
  suffices H : ∀ (v i : Nat) (acc : List UInt8), v < 2 ^ 64 → i + acc.length = 65 → (digB 16 v).length + acc.length ≤ 64 → digB 16 v ++ acc = digB 16 u →
      ∀ σ, inT σ.t [(1, .v (.int .u64 (v : Int))), (3, .v (.bool false)), (4, .v (.bool false)), (10, .v (.slice none 0 0)), (12, .ptr 0 0), (13, .v (.int .i64 (i : Int))), (14, .v (.int .u64 4)), (15, .v (.int .u64 16)), (16, .v (.int .u64 15))] →
      inT σ.h [(0, .cells 121 [.vals 65 (rowB i acc)])] → Run _ _ σ by
    exact H u 65 [] hu rfl (by have := digB_len (b := 16) (by decide) u 64 hu (by decide); simpa using this) (by simp) _ ⟨rfl, rfl, rfl, rfl, rfl, rfl, rfl, rfl, rfl, trivial⟩ ⟨rfl, trivial⟩
  intro v
  induction v using Nat.strongRecOn with
  | _ v ih =>
    intro i acc hv hi hl he σ ht hh
    refine Run.to ?_ ht hh (n' := 1)
    have hne : 1 ≤ (digB 16 v).length := List.length_pos_iff.2 (digB_ne (by decide))
    obtain ⟨i, rfl⟩ : ∃ j, i = j + 1 := ⟨i - 1, by omega⟩
    have hwi : IntKind.i64.wrap (((i + 1 : Nat) : Int) - 1) = (i : Int) := by rw [wrap_i64 (by omega) (by omega)]; omega
    have hi65 : i < 65 := by omega
    by_cases hvb : v < 16
    · have hset : (rowB (i + 1) acc).set (0 - 0 + ((i : Int)).toNat * 1) (.int .u8 ((D36[(v : Int).toNat]?.getD 0).toNat : Int)) = rowB i (dgC v :: acc) := by
        rw [Int.toNat_natCast, Int.toNat_natCast, dig_at v hvb, Nat.sub_zero, Nat.zero_add, Nat.mul_one]
        exact rowB_set i acc (dgC v)
      refine RunF_sound tab_ok noX_local 100 [false, false, false] _ _ rfl ?_ ?_
      · simp only [hwi]
        simp [okCell, Value.oneCell']
        exact ⟨by omega, Nat.lt_of_lt_of_le hvb (show 16 ≤ 36 by decide), by omega⟩
      simp only [hwi, hset]
      refine Run.arrStr (dgC v :: acc) (n := i) (N := 65) tab_ok rfl rfl rfl rfl rfl rfl rfl rfl rfl rfl rfl rfl rfl rfl rfl rfl rfl rfl (rowB_drop i _) (by simp at hi ⊢; omega) (by simp) ?_
      refine RunF_sound tab_ok noX_local 100 [] _ _ rfl ?_ ?_
      · simp
      refine Run.retL tab_ok Tryd.func90 rfl trivial (fun M => ?_)
      rw [← he, digB_lt hvb]
      rfl
    · have hb15 := band15 v hv
      have hs4 := shr4 v hv
      have hlt : v % 16 < 16 := Nat.mod_lt _ (by decide)
      have hset : (rowB (i + 1) acc).set (0 - 0 + ((i : Int)).toNat * 1) (.int .u8 ((D36[((v % 16 : Nat) : Int).toNat]?.getD 0).toNat : Int)) = rowB i (dgC (v % 16) :: acc) := by
        rw [Int.toNat_natCast, Int.toNat_natCast, dig_at _ hlt, Nat.sub_zero, Nat.zero_add, Nat.mul_one]
        exact rowB_set i acc (dgC (v % 16))
      refine RunF_sound tab_ok noX_local 100 [true] _ _ rfl ?_ ?_
      · simp only [hwi, hb15]
        simp [okCell, Value.oneCell']
        exact ⟨by omega, ⟨by omega, Nat.lt_of_lt_of_le hlt (show 16 ≤ 36 by decide)⟩, by omega⟩
      simp only [hwi, hb15, hset]
      have hd : digB 16 v = digB 16 (v / 16) ++ [dgC (v % 16)] := digB_ge (by omega) (by decide)
      refine ih (v / 16) (by omega) i (dgC (v % 16) :: acc) (by omega) (by simp at hi ⊢; omega) ?_ ?_ _ ⟨?_, rfl, rfl, rfl, rfl, rfl, rfl, rfl, rfl, trivial⟩ ⟨rfl, trivial⟩
      · rw [hd, List.length_append] at hl
        simp at hl ⊢
        omega
      · rw [← he, hd]; simp
      · refine congrArg (fun z => some (AV.v (Value.int .u64 z))) ?_
        exact hs4
end Go.Proofs.YtpfanhbkjajocaaDoor

/-
  A value's three texts. Own work.
-/
namespace Go.Proofs.YtpfanhbkjajocaaDoor
open Go.AM
set_option maxRecDepth 100000

theorem bits_enters : Enters Tryd.prog 90 := enters_mk Tryd.func90 (by decide) rfl
theorem uint16I_ok (u : Nat) (hu : u < 2 ^ 64) (w : World) (hT : TabAt w) : Gives Tryd.prog 81 [.int .u64 (u : Int), .int .i64 16] w (.string ⟨(digB 16 u).toArray⟩) := by
  refine Gives.of_run Tryd.func81 rfl (by show 2 ≤ 32; decide) ?_
  refine RunF_sound tab_ok noX_local 100 [false] _ _ rfl ?_ ?_
  · simp
  refine Run.callFn (r := .tuple #[.slice none 0 0, .string ⟨(digB 16 u).toArray⟩]) noX_local rfl rfl rfl rfl rfl rfl rfl bits_enters rfl (fun w' hA => bits16_ok u hu w' (hT.agree hA (fun h => h))) ?_
  refine RunF_sound tab_ok noX_local 100 [] _ _ rfl ?_ ?_
  · simp
  exact Run.retP tab_ok Tryd.func81 rfl trivial (fun M => rfl)
theorem uint16_ok (u : Nat) (hu : u < 2 ^ 64) (w : World) (hT : TabAt w) : Gives Tryd.prog 72 [.int .u64 (u : Int), .int .i64 16] w (.string ⟨(digB 16 u).toArray⟩) := by
  refine Gives.of_run Tryd.func72 rfl (by show 2 ≤ 8; decide) ?_
  refine RunF_sound tab_ok noX_local 100 [] _ _ rfl ?_ ?_
  · simp
  refine Run.callFn (r := .string ⟨(digB 16 u).toArray⟩) noX_local rfl rfl rfl rfl rfl rfl rfl uintI_enters rfl (fun w' hA => uint16I_ok u hu w' (hT.agree hA (fun h => h))) ?_
  refine RunF_sound tab_ok noX_local 100 [] _ _ rfl ?_ ?_
  · simp
  exact Run.retP tab_ok Tryd.func72 rfl trivial (fun M => rfl)

/-- What an int64 is as a uint64. -/
def uN (v : Int) : Nat := (IntKind.u64.wrap v).toNat
theorem uN_eq (v : Int) : IntKind.u64.wrap v = (uN v : Int) := by
  unfold uN; rw [IntKind.wrap_u64]; omega
theorem uN_lt (v : Int) : uN v < 2 ^ 64 := by
  unfold uN; rw [IntKind.wrap_u64]; omega

def textB (v : Int) : ByteArray := ⟨(Lib.itoa v).toArray⟩
def hexB (v : Int) : ByteArray := ⟨(48 :: 120 :: digB 16 (uN v)).toArray⟩
def unsB (v : Int) : ByteArray := ⟨(digB 10 (uN v)).toArray⟩

theorem wtext_ok (v : Int) (h0 : -9223372036854775808 ≤ v) (h1 : v ≤ 9223372036854775807) (w : World) (hP : PowAt w) : Gives Tryd.prog 40 [.int .i64 v] w (.string (textB v)) := by
  refine Gives.of_run Tryd.func40 rfl (by show 1 ≤ 5; decide) ?_
  refine RunF_sound tab_ok noX_local 100 [] _ _ rfl ?_ ?_
  · simp
  refine Run.callFn (r := .string (textB v)) noX_local rfl rfl rfl rfl rfl rfl rfl int_enters rfl (fun w' hA => int10_ok v h0 h1 w' (hP.agree hA)) ?_
  refine RunF_sound tab_ok noX_local 100 [] _ _ rfl ?_ ?_
  · simp
  exact Run.retP tab_ok Tryd.func40 rfl trivial (fun M => rfl)
theorem wtext_enters : Enters Tryd.prog 40 := enters_mk Tryd.func40 (by decide) rfl

theorem uns_ok (v : Int) (w : World) (hP : PowAt w) : Gives Tryd.prog 44 [.int .i64 v] w (.string (unsB v)) := by
  refine Gives.of_run Tryd.func44 rfl (by show 1 ≤ 6; decide) ?_
  refine RunF_sound tab_ok noX_local 100 [] _ _ rfl ?_ ?_
  · simp
  rw [uN_eq]
  refine Run.callFn (r := .string (unsB v)) noX_local rfl rfl rfl rfl rfl rfl rfl uint_enters rfl (fun w' hA => uint10_ok _ (uN_lt v) w' (hP.agree hA)) ?_
  refine RunF_sound tab_ok noX_local 100 [] _ _ rfl ?_ ?_
  · simp
  exact Run.retP tab_ok Tryd.func44 rfl trivial (fun M => rfl)
theorem uns_enters : Enters Tryd.prog 44 := enters_mk Tryd.func44 (by decide) rfl

theorem zx_app (l : List UInt8) : (⟨#[48, 120]⟩ : ByteArray) ++ ⟨l.toArray⟩ = ⟨(48 :: 120 :: l).toArray⟩ := by apply ByteArray.ext; simp
theorem mi_app (l : List UInt8) : (⟨#[45]⟩ : ByteArray) ++ ⟨l.toArray⟩ = ⟨(45 :: l).toArray⟩ := by apply ByteArray.ext; simp

theorem hex_ok (v : Int) (w : World) (hT : TabAt w) : Gives Tryd.prog 42 [.int .i64 v] w (.string (hexB v)) := by
  refine Gives.of_run Tryd.func42 rfl (by show 1 ≤ 7; decide) ?_
  refine RunF_sound tab_ok noX_local 100 [] _ _ rfl ?_ ?_
  · simp
  have hl := digB_len (b := 16) (by decide) (uN v) 64 (uN_lt v) (by decide)
  rw [uN_eq]
  refine Run.callFn (r := .string ⟨(digB 16 (uN v)).toArray⟩) noX_local rfl rfl rfl rfl rfl rfl rfl uint_enters rfl (fun w' hA => uint16_ok _ (uN_lt v) w' (hT.agree hA (fun h => h))) ?_
  have hsz : (⟨(digB 16 (uN v)).toArray⟩ : ByteArray).size = (digB 16 (uN v)).length := rfl
  have hsz2 : (⟨#[48, 120]⟩ : ByteArray).size = 2 := rfl
  refine RunF_sound tab_ok noX_local 100 [] _ _ rfl ?_ ?_
  · simp [hsz, hsz2]
    omega
  exact Run.retP tab_ok Tryd.func42 rfl trivial (fun M => congrArg Value.string (zx_app _))
theorem hex_enters : Enters Tryd.prog 42 := enters_mk Tryd.func42 (by decide) rfl

theorem in_enters : Enters Tryd.prog 71 := enters_mk Tryd.func71 (by decide) rfl
theorem unsR_ok (v : Int) (w : World) : Gives Tryd.prog 45 [.int .i64 v] w (.string (unsB v)) := by
  refine Gives.of_run Tryd.func45 rfl (by show 1 ≤ 6; decide) ?_
  refine RunF_sound tab_ok noX_local 100 [] _ _ rfl ?_ ?_
  · simp
  rw [uN_eq]
  refine Run.callFn (r := .string (unsB v)) noX_local rfl rfl rfl rfl rfl rfl rfl in_enters rfl (fun w' _ => in_ok 10 (by decide) (by decide) _ (uN_lt v) w') ?_
  refine RunF_sound tab_ok noX_local 100 [] _ _ rfl ?_ ?_
  · simp
  exact Run.retP tab_ok Tryd.func45 rfl trivial (fun M => rfl)
theorem unsR_enters : Enters Tryd.prog 45 := enters_mk Tryd.func45 (by decide) rfl
theorem hexR_ok (v : Int) (w : World) : Gives Tryd.prog 43 [.int .i64 v] w (.string (hexB v)) := by
  refine Gives.of_run Tryd.func43 rfl (by show 1 ≤ 7; decide) ?_
  refine RunF_sound tab_ok noX_local 100 [] _ _ rfl ?_ ?_
  · simp
  have hl := digB_len (b := 16) (by decide) (uN v) 64 (uN_lt v) (by decide)
  rw [uN_eq]
  refine Run.callFn (r := .string ⟨(digB 16 (uN v)).toArray⟩) noX_local rfl rfl rfl rfl rfl rfl rfl in_enters rfl (fun w' _ => in_ok 16 (by decide) (by decide) _ (uN_lt v) w') ?_
  have hsz : (⟨(digB 16 (uN v)).toArray⟩ : ByteArray).size = (digB 16 (uN v)).length := rfl
  have hsz2 : (⟨#[48, 120]⟩ : ByteArray).size = 2 := rfl
  refine RunF_sound tab_ok noX_local 100 [] _ _ rfl ?_ ?_
  · simp [hsz, hsz2]
    omega
  exact Run.retP tab_ok Tryd.func43 rfl trivial (fun M => congrArg Value.string (zx_app _))
theorem hexR_enters : Enters Tryd.prog 43 := enters_mk Tryd.func43 (by decide) rfl
theorem textR_ok (v : Int) (h0 : -9223372036854775808 ≤ v) (h1 : v ≤ 9223372036854775807) (w : World) : Gives Tryd.prog 41 [.int .i64 v] w (.string (textB v)) := by
  refine Gives.of_run Tryd.func41 rfl (by show 1 ≤ 13; decide) ?_
  by_cases hv : v < 0
  · have hn : IntKind.u64.wrap (0 - IntKind.u64.wrap v) = ((v.natAbs : Nat) : Int) := by rw [IntKind.wrap_u64, IntKind.wrap_u64]; omega
    have hlt : v.natAbs < 2 ^ 64 := by omega
    have hl := digB_len (b := 10) (by decide) v.natAbs 64 hlt (by decide)
    refine RunF_sound tab_ok noX_local 100 [true] _ _ rfl ?_ ?_
    · simp [hv]
    simp only [hn]
    refine Run.callFn (r := .string ⟨(digB 10 v.natAbs).toArray⟩) noX_local rfl rfl rfl rfl rfl rfl rfl in_enters rfl (fun w' _ => in_ok 10 (by decide) (by decide) _ hlt w') ?_
    have hsz : (⟨(digB 10 v.natAbs).toArray⟩ : ByteArray).size = (digB 10 v.natAbs).length := rfl
    have hsz2 : (⟨#[45]⟩ : ByteArray).size = 1 := rfl
    refine RunF_sound tab_ok noX_local 100 [] _ _ rfl ?_ ?_
    · simp [hsz, hsz2]
      omega
    refine Run.retP tab_ok Tryd.func41 rfl trivial (fun M => (congrArg Value.string (mi_app _)).trans ?_)
    unfold textB Lib.itoa
    rw [if_pos hv, digB_10]
  · have hn : IntKind.u64.wrap v = ((v.toNat : Nat) : Int) := by rw [IntKind.wrap_u64]; omega
    have hlt : v.toNat < 2 ^ 64 := by omega
    refine RunF_sound tab_ok noX_local 100 [false] _ _ rfl ?_ ?_
    · simp [hv]
    rw [hn]
    refine Run.callFn (r := .string ⟨(digB 10 v.toNat).toArray⟩) noX_local rfl rfl rfl rfl rfl rfl rfl in_enters rfl (fun w' _ => in_ok 10 (by decide) (by decide) _ hlt w') ?_
    refine RunF_sound tab_ok noX_local 100 [] _ _ rfl ?_ ?_
    · simp
    refine Run.retP tab_ok Tryd.func41 rfl trivial (fun M => ?_)
    unfold textB Lib.itoa
    rw [if_neg hv, digB_10]
    rfl
theorem textR_enters : Enters Tryd.prog 41 := enters_mk Tryd.func41 (by decide) rfl

theorem wordTexts_ok (v : Int) (h0 : -9223372036854775808 ≤ v) (h1 : v ≤ 9223372036854775807) (w : World) (hT : TabAt w) (hP : PowAt w) : Gives Tryd.prog 6 [.int .i64 v] w (.bool true) := by
  refine Gives.of_run Tryd.func6 rfl (by show 1 ≤ 22; decide) ?_
  refine RunF_sound tab_ok noX_local 100 [] _ _ rfl ?_ ?_
  · simp
  refine Run.callFn (r := .string (textB v)) noX_local rfl rfl rfl rfl rfl rfl rfl wtext_enters rfl (fun w' hA => wtext_ok v h0 h1 w' (hP.agree hA)) ?_
  refine RunF_sound tab_ok noX_local 100 [] _ _ rfl ?_ ?_
  · simp
  refine Run.callFn (r := .string (textB v)) noX_local rfl rfl rfl rfl rfl rfl rfl textR_enters rfl (fun w' hA => textR_ok v h0 h1 w') ?_
  generalize textB v = s1
  refine RunF_sound tab_ok noX_local 100 [true] _ _ rfl ?_ ?_
  · simp
  refine Run.callFn (r := .string (hexB v)) noX_local rfl rfl rfl rfl rfl rfl rfl hex_enters rfl (fun w' hA => hex_ok v w' (hT.agree hA (fun h => h))) ?_
  refine RunF_sound tab_ok noX_local 100 [] _ _ rfl ?_ ?_
  · simp
  refine Run.callFn (r := .string (hexB v)) noX_local rfl rfl rfl rfl rfl rfl rfl hexR_enters rfl (fun w' hA => hexR_ok v w') ?_
  generalize hexB v = s2
  refine RunF_sound tab_ok noX_local 100 [true] _ _ rfl ?_ ?_
  · simp
  refine Run.callFn (r := .string (unsB v)) noX_local rfl rfl rfl rfl rfl rfl rfl uns_enters rfl (fun w' hA => uns_ok v w' (hP.agree hA)) ?_
  refine RunF_sound tab_ok noX_local 100 [] _ _ rfl ?_ ?_
  · simp
  refine Run.callFn (r := .string (unsB v)) noX_local rfl rfl rfl rfl rfl rfl rfl unsR_enters rfl (fun w' hA => unsR_ok v w') ?_
  generalize unsB v = s3
  refine RunF_sound tab_ok noX_local 100 [] _ _ rfl ?_ ?_
  · simp
  refine Run.retP tab_ok Tryd.func6 rfl ?_ (fun M => ?_)
  · trivial
  · simp [conc]
end Go.Proofs.YtpfanhbkjajocaaDoor

/-
  The examples that stand ahead of the statements of layer 4; WordLongest. Own work.
-/
namespace Go.Proofs.YtpfanhbkjajocaaDoor
open Go.AM
set_option maxRecDepth 100000

theorem ex_parse : parseS ⟨#[45, 48, 120, 49, 48]⟩ = (-16, 0) := by decide +kernel
theorem ex_next : nextS ⟨#[49, 50, 44]⟩ 0 = (12, 2, 0) := by decide +kernel
theorem ex_put : putS 64 = ⟨#[128, 1]⟩ := by decide +kernel
theorem ex_text : textB (-1) = ⟨#[45, 49]⟩ := by
  unfold textB Lib.itoa
  rw [if_pos (by decide), ← digB_10, digB_lt (by decide)]
  rfl
theorem ex_hex : hexB 255 = ⟨#[48, 120, 102, 102]⟩ := by
  have h : uN 255 = 255 := by decide +kernel
  unfold hexB
  rw [h, digB_ge (by decide) (by decide), digB_lt (by decide)]
  rfl
theorem ex_uns : unsB (-1) = ⟨#[49, 56, 52, 52, 54, 55, 52, 52, 48, 55, 51, 55, 48, 57, 53, 53, 49, 54, 49, 53]⟩ := by
  have h : uN (-1) = 18446744073709551615 := by decide +kernel
  unfold unsB
  rw [h]
  (repeat first | rw [digB_lt (by decide)] | rw [digB_ge (by decide) (by decide)])
  rfl

theorem works_ok (w : World) (hT : TabAt w) (hP : PowAt w) : Gives Tryd.prog 52 [] w (.bool true) := by
  refine Gives.of_run Tryd.func52 rfl (by show 0 ≤ 51; decide) ?_
  refine RunF_sound tab_ok noX_local 100 [] _ _ rfl ?_ ?_
  · simp
  refine Run.callFn (r := .tuple #[.int .i64 (-16), .int .i64 0]) noX_local rfl rfl rfl rfl rfl rfl rfl parse_enters rfl (fun w' _ => ?_) ?_
  · have := parse_ok ⟨#[45, 48, 120, 49, 48]⟩ w' (by decide)
    rw [ex_parse] at this
    exact this
  refine RunF_sound tab_ok noX_local 100 [] _ _ rfl ?_ ?_
  · simp
  refine Run.callFn (r := .tuple #[.int .i64 12, .int .i64 2, .int .i64 0]) noX_local rfl rfl rfl rfl rfl rfl rfl next_enters rfl (fun w' _ => ?_) ?_
  · have := next_ok ⟨#[49, 50, 44]⟩ 0 w' (by decide)
    rw [ex_next] at this
    exact this
  refine RunF_sound tab_ok noX_local 100 [true] _ _ rfl ?_ ?_
  · simp
  refine Run.callFn (r := .int .i64 0) noX_local rfl rfl rfl rfl rfl rfl rfl num_enters rfl (fun w' _ => num_ok 0 w') ?_
  refine RunF_sound tab_ok noX_local 100 [true, true, true] _ _ rfl ?_ ?_
  · simp
  refine Run.callFn (r := .int .i64 0) noX_local rfl rfl rfl rfl rfl rfl rfl num_enters rfl (fun w' _ => num_ok 0 w') ?_
  refine RunF_sound tab_ok noX_local 100 [true] _ _ rfl ?_ ?_
  · simp
  refine Run.callFn (r := .string ⟨#[45, 49]⟩) noX_local rfl rfl rfl rfl rfl rfl rfl wtext_enters rfl (fun w' hA => by rw [← ex_text]; exact wtext_ok (-1) (by decide) (by decide) w' (hP.agree hA)) ?_
  refine RunF_sound tab_ok noX_local 100 [true] _ _ rfl ?_ ?_
  · simp
  refine Run.callFn (r := .string ⟨#[48, 120, 102, 102]⟩) noX_local rfl rfl rfl rfl rfl rfl rfl hex_enters rfl (fun w' hA => by rw [← ex_hex]; exact hex_ok 255 w' (hT.agree hA (fun h => h))) ?_
  refine RunF_sound tab_ok noX_local 100 [true] _ _ rfl ?_ ?_
  · simp
  refine Run.callFn (r := .string ⟨#[49, 56, 52, 52, 54, 55, 52, 52, 48, 55, 51, 55, 48, 57, 53, 53, 49, 54, 49, 53]⟩) noX_local rfl rfl rfl rfl rfl rfl rfl uns_enters rfl (fun w' hA => by rw [← ex_uns]; exact uns_ok (-1) w' (hP.agree hA)) ?_
  refine RunF_sound tab_ok noX_local 100 [true] _ _ rfl ?_ ?_
  · simp
  refine Run.callFn (r := .string ⟨#[128, 1]⟩) noX_local rfl rfl rfl rfl rfl rfl rfl put_enters rfl (fun w' hA => by rw [← ex_put]; exact put_ok 64 w' (by decide) (by decide)) ?_
  refine RunF_sound tab_ok noX_local 100 [] _ _ rfl ?_ ?_
  · simp
  refine Run.retP tab_ok Tryd.func52 rfl trivial (fun M => ?_)
  simp [conc]
theorem works_enters : Enters Tryd.prog 52 := enters_mk Tryd.func52 (by decide) rfl

theorem longest_ok (s : ByteArray) (a : Int) (w : World) (hs : s.size ≤ maxLen) (hT : TabAt w) (hP : PowAt w) : Gives Tryd.prog 9 [.string s, .int .i64 a] w (.bool true) := by
  refine Gives.of_run Tryd.func9 rfl (by show 2 ≤ 88; decide) ?_
  refine RunF_sound tab_ok noX_local 100 [] _ _ rfl ?_ ?_
  · simp
  refine Run.callFn (r := .bool true) noX_local rfl rfl rfl rfl rfl rfl rfl works_enters rfl (fun w' hA => works_ok w' (hT.agree hA (fun h => h)) (hP.agree hA)) ?_
  refine RunF_sound tab_ok noX_local 100 [false] _ _ rfl ?_ ?_
  · simp
  have hnx := fun w' => next_ok s a w' hs
  have herr := fun h => next_err0 (s := s) (a := a) h
  have hwin := fun h => parse_win (s := s) (a := a) h
  generalize nextS s a = R at *
  obtain ⟨v, n0, e⟩ := R
  refine Run.callFn (r := .tuple #[.int .i64 v, .int .i64 n0, .int .i64 e]) noX_local rfl rfl rfl rfl rfl rfl rfl next_enters rfl (fun w' _ => hnx w') ?_
  refine RunF_sound tab_ok noX_local 100 [] _ _ rfl ?_ ?_
  · simp
  refine Run.callFn (r := .int .i64 e) noX_local rfl rfl rfl rfl rfl rfl rfl num_enters rfl (fun w' _ => num_ok e w') ?_
  by_cases he : e = 0
  · subst he
    obtain ⟨n, rfl, h0, h1, h2, h3, h4⟩ := hwin rfl
    obtain ⟨A, rfl⟩ := Int.eq_ofNat_of_zero_le h0
    rw [Int.toNat_natCast] at h2 h3 h4
    have hsz : s.size ≤ 9223372036854775807 := hs
    have hw1 : IntKind.i64.wrap ((A : Int) + (n : Int)) = ((A + n : Nat) : Int) := by rw [wrap_i64 (by omega) (by omega)]; omega
    have hw2 : IntKind.i64.wrap ((s.size : Int) - (A : Int)) = ((s.size - A : Nat) : Int) := by rw [wrap_i64 (by omega) (by omega)]; omega
    refine RunF_sound tab_ok noX_local 100 [false, false, false, false, false] _ _ rfl ?_ ?_
    · simp only [hw1, hw2, Int.toNat_natCast]
      simp
      omega
    have hq1 : (s.extract A (A + n)).size ≤ maxLen := by rw [ByteArray.size_extract]; omega
    have hq2 : (s.extract A (A + (n + 1))).size ≤ maxLen := by rw [ByteArray.size_extract]; omega
    have hp1 := fun w' => parse_ok (s.extract A (A + n)) w' hq1
    have hp2 := fun w' => parse_ok (s.extract A (A + (n + 1))) w' hq2
    rw [h3] at hp1
    simp only [hw1, Int.toNat_natCast]
    refine Run.callFn (r := .tuple #[.int .i64 v, .int .i64 0]) noX_local rfl rfl rfl rfl rfl rfl rfl parse_enters rfl (fun w' _ => hp1 w') ?_
    refine RunF_sound tab_ok noX_local 100 [] _ _ rfl ?_ ?_
    · simp
    refine Run.callFn (r := .int .i64 0) noX_local rfl rfl rfl rfl rfl rfl rfl num_enters rfl (fun w' _ => num_ok 0 w') ?_
    by_cases hend : A + n = s.size
    · refine RunF_sound tab_ok noX_local 100 [false, false, true] _ _ rfl ?_ ?_
      · simp only [hw1]
        simp
        omega
      exact Run.retP tab_ok Tryd.func9 rfl trivial (fun M => rfl)
    · have hw3 : IntKind.i64.wrap (((A + n : Nat) : Int) + 1) = ((A + (n + 1) : Nat) : Int) := by rw [wrap_i64 (by omega) (by omega)]; omega
      rw [h4 hend] at hp2
      refine RunF_sound tab_ok noX_local 100 [false, false, false] _ _ rfl ?_ ?_
      · simp only [hw1, hw3, Int.toNat_natCast]
        simp
        omega
      simp only [hw1, hw3, Int.toNat_natCast]
      refine Run.callFn (r := .tuple #[.int .i64 0, .int .i64 40]) noX_local rfl rfl rfl rfl rfl rfl rfl parse_enters rfl (fun w' _ => hp2 w') ?_
      refine RunF_sound tab_ok noX_local 100 [] _ _ rfl ?_ ?_
      · simp
      refine Run.callFn (r := .int .i64 40) noX_local rfl rfl rfl rfl rfl rfl rfl num_enters rfl (fun w' _ => num_ok 40 w') ?_
      refine RunF_sound tab_ok noX_local 100 [] _ _ rfl ?_ ?_
      · simp
      refine Run.retP tab_ok Tryd.func9 rfl trivial (fun M => ?_)
      simp [conc]
  · obtain ⟨rfl, rfl⟩ := herr he
    refine RunF_sound tab_ok noX_local 100 [true, true] _ _ rfl ?_ ?_
    · simp [he]
    refine Run.retP tab_ok Tryd.func9 rfl trivial (fun M => ?_)
    simp [conc]
end Go.Proofs.YtpfanhbkjajocaaDoor

/-
  Six texts of a value, read as it: in plain Lean; noughts. Own work.
-/
namespace Go.Proofs.YtpfanhbkjajocaaDoor
open Go.AM
set_option maxRecDepth 100000

/-- So many noughts as are asked for, at most a hundred. -/
def nz (n : Int) : Nat := min n.toNat 100

theorem dig_ne {b : Nat} (hb : 2 ≤ b) (u : Nat) : digB b u ≠ [] := digB_ne hb

/-- What is asked of a text: it is read as v, whole, with a blank behind it too. -/
def ReadsAs (L : List UInt8) (v : Int) : Prop := parseS ⟨L.toArray⟩ = (v, 0) ∧ nextS ⟨(L ++ [32]).toArray⟩ 0 = (v, (L.length : Int), 0)

theorem reads_dec (D : List UInt8) (hD : D ≠ []) (hd : ∀ c ∈ D, dU c < 10) (hlt : hv 10 0 D < 18446744073709551616) : ReadsAs D (IntKind.i64.wrap (hv 10 0 D)) := by
  have h1 := next_dec false D [] hD hd (.inl rfl) hlt (fun h => by cases h)
  have h2 := next_dec false D [32] hD hd (.inr rfl) hlt (fun h => by cases h)
  simp only [Bool.false_eq_true, if_false, List.nil_append, List.append_nil, Nat.zero_add] at h1 h2
  exact ⟨parse_of h1.1 (by rw [h1.2]; rfl), h2.1⟩
theorem reads_neg (D : List UInt8) (hD : D ≠ []) (hd : ∀ c ∈ D, dU c < 10) (hlt : hv 10 0 D ≤ 9223372036854775808) : ReadsAs (45 :: D) (IntKind.i64.wrap (IntKind.u64.wrap (0 - hv 10 0 D))) := by
  have h1 := next_dec true D [] hD hd (.inl rfl) (by omega) (fun _ => hlt)
  have h2 := next_dec true D [32] hD hd (.inr rfl) (by omega) (fun _ => hlt)
  simp only [if_true, List.cons_append, List.nil_append, List.append_nil] at h1 h2
  have hl : (1 + D.length : Nat) = (45 :: D).length := by simp; omega
  rw [hl] at h1 h2
  exact ⟨parse_of h1.1 (by rw [h1.2]; rfl), h2.1⟩
theorem reads_hex (X : UInt8) (hX : X = 120 ∨ X = 88) (D : List UInt8) (hD : D ≠ []) (hd : ∀ c ∈ D, dU c < 16) (hlt : hv 16 0 D < 18446744073709551616) : ReadsAs (48 :: X :: D) (IntKind.i64.wrap (hv 16 0 D)) := by
  have h1 := next_hex X hX D [] hD hd (.inl rfl) hlt
  have h2 := next_hex X hX D [32] hD hd (.inr rfl) hlt
  simp only [List.cons_append, List.nil_append, List.append_nil] at h1 h2
  have hl : (2 + D.length : Nat) = (48 :: X :: D).length := by simp; omega
  rw [hl] at h1 h2
  exact ⟨parse_of h1.1 (by rw [h1.2]; rfl), h2.1⟩

theorem hv_pad (B : Int) (n : Nat) (D : List UInt8) : hv B 0 (zer n ++ D) = hv B 0 D := by rw [hv_app, hv_zer]
theorem pad_all {B : Int} (hB : 2 ≤ B) (n : Nat) {D : List UInt8} (h : ∀ c ∈ D, dU c < B) : ∀ c ∈ zer n ++ D, dU c < B := fun c hc => by
  rcases List.mem_append.1 hc with hc | hc
  · exact zer_all hB n c hc
  · exact h c hc
theorem pad_ne (n : Nat) {D : List UInt8} (h : D ≠ []) : zer n ++ D ≠ [] := by simp [h]

theorem wrap_back {v : Int} (h0 : -9223372036854775808 ≤ v) (h1 : v ≤ 9223372036854775807) : IntKind.i64.wrap ((uN v : Nat) : Int) = v := by
  rw [← uN_eq]
  have e := sn_ofInt h0 h1
  have h2 : IntKind.i64.wrap (IntKind.u64.wrap (sn (BitVec.ofInt 64 v))) = sn (BitVec.ofInt 64 v) := by rw [un_of_sn, sn_of_un]
  rwa [e] at h2
theorem wrap_neg {v : Int} (h0 : -9223372036854775808 ≤ v) (h : v < 0) : IntKind.i64.wrap (IntKind.u64.wrap (0 - ((v.natAbs : Nat) : Int))) = v := by
  have e : (0 - ((v.natAbs : Nat) : Int)) = v := by omega
  rw [e, uN_eq, wrap_back h0 (by omega)]

def txt (v : Int) : List UInt8 := Lib.itoa v
theorem txt_neg {v : Int} (h : v < 0) : txt v = 45 :: digB 10 v.natAbs := by unfold txt Lib.itoa; rw [if_pos h, digB_10]
theorem txt_pos {v : Int} (h : ¬ v < 0) : txt v = digB 10 v.toNat := by unfold txt Lib.itoa; rw [if_neg h, digB_10]
/-- The text with noughts in it. -/
def lng (v n : Int) : List UInt8 := if v < 0 then 45 :: (zer (nz n) ++ digB 10 v.natAbs) else zer (nz n) ++ digB 10 v.toNat

theorem read_six (v n : Int) (h0 : -9223372036854775808 ≤ v) (h1 : v ≤ 9223372036854775807) : ReadsAs (txt v) v ∧ ReadsAs (48 :: 120 :: digB 16 (uN v)) v ∧ ReadsAs (digB 10 (uN v)) v ∧ ReadsAs (lng v n) v ∧
    ReadsAs (48 :: 88 :: (zer (nz n) ++ digB 16 (uN v))) v ∧ ReadsAs (zer (nz n) ++ digB 10 (uN v)) v := by
  have hu := uN_lt v
  have hb := wrap_back h0 h1
  have d10 : ∀ u, hv 10 0 (digB 10 u) = (u : Int) := fun u => hv_dig (b := 10) (by decide) (by decide) u
  have d16 : ∀ u, hv 16 0 (digB 16 u) = (u : Int) := fun u => hv_dig (b := 16) (by decide) (by decide) u
  have a10 : ∀ u, ∀ c ∈ digB 10 u, dU c < 10 := fun u => dig_all (b := 10) (by decide) (by decide) u
  have a16 : ∀ u, ∀ c ∈ digB 16 u, dU c < 16 := fun u => dig_all (b := 16) (by decide) (by decide) u
  have n10 : ∀ u, digB 10 u ≠ [] := fun u => digB_ne (by decide)
  have n16 : ∀ u, digB 16 u ≠ [] := fun u => digB_ne (by decide)
  have r3 := reads_dec (digB 10 (uN v)) (n10 _) (a10 _) (by rw [d10]; omega)
  rw [d10, hb] at r3
  have r2 := reads_hex 120 (.inl rfl) (digB 16 (uN v)) (n16 _) (a16 _) (by rw [d16]; omega)
  rw [d16, hb] at r2
  have r5 := reads_hex 88 (.inr rfl) (zer (nz n) ++ digB 16 (uN v)) (pad_ne _ (n16 _)) (pad_all (by decide) _ (a16 _)) (by rw [hv_pad, d16]; omega)
  rw [hv_pad, d16, hb] at r5
  have r6 := reads_dec (zer (nz n) ++ digB 10 (uN v)) (pad_ne _ (n10 _)) (pad_all (by decide) _ (a10 _)) (by rw [hv_pad, d10]; omega)
  rw [hv_pad, d10, hb] at r6
  by_cases h : v < 0
  · have r1 := reads_neg (digB 10 v.natAbs) (n10 _) (a10 _) (by rw [d10]; omega)
    rw [d10, wrap_neg h0 h] at r1
    have r4 := reads_neg (zer (nz n) ++ digB 10 v.natAbs) (pad_ne _ (n10 _)) (pad_all (by decide) _ (a10 _)) (by rw [hv_pad, d10]; omega)
    rw [hv_pad, d10, wrap_neg h0 h] at r4
    refine ⟨by rw [txt_neg h]; exact r1, r2, r3, ?_, r5, r6⟩
    unfold lng; rw [if_pos h]; exact r4
  · have hw : IntKind.i64.wrap ((v.toNat : Nat) : Int) = v := by rw [show ((v.toNat : Nat) : Int) = v by omega, wrap_i64 h0 h1]
    have r1 := reads_dec (digB 10 v.toNat) (n10 _) (a10 _) (by rw [d10]; omega)
    rw [d10, hw] at r1
    have r4 := reads_dec (zer (nz n) ++ digB 10 v.toNat) (pad_ne _ (n10 _)) (pad_all (by decide) _ (a10 _)) (by rw [hv_pad, d10]; omega)
    rw [hv_pad, d10, hw] at r4
    refine ⟨by rw [txt_pos h]; exact r1, r2, r3, ?_, r5, r6⟩
    unfold lng; rw [if_neg h]; exact r4

theorem noughts_ok (n : Int) (w : World) : Gives Tryd.prog 53 [.int .i64 n] w (.string ⟨(zer (nz n)).toArray⟩) := by
  refine Gives.of_run Tryd.func53 rfl (by show 1 ≤ 17; decide) ?_
  refine RunF_sound tab_ok noX_local 100 [] _ _ rfl ?_ ?_
  · simp
  suffices H : ∀ (d k : Nat), k + d = nz n → ∀ σ, inT σ.t [(0, .v (.int .i64 n)), (3, .v (.string ⟨(zer k).toArray⟩)), (4, .v (.int .i64 (k : Int)))] → inT σ.h [] → Run (fnP Tryd.prog 53 (Tryd.f53).ntmps w (.string ⟨(zer (nz n)).toArray⟩)) _ σ by
    exact H (nz n) 0 (by omega) _ ⟨rfl, rfl, rfl, trivial⟩ trivial
  have hn : nz n ≤ 100 := by unfold nz; omega
  intro d
  induction d with
  | zero =>
    intro k hk σ ht hh
    obtain rfl : k = nz n := by omega
    refine Run.to ?_ ht hh (n' := 0)
    by_cases hx : ((nz n : Nat) : Int) < n
    · refine RunF_sound tab_ok noX_local 100 [true, false] _ _ rfl ?_ ?_
      · simp [hx]
        unfold nz at hx ⊢
        omega
      exact Run.retP tab_ok Tryd.func53 rfl trivial (fun M => rfl)
    · refine RunF_sound tab_ok noX_local 100 [false] _ _ rfl ?_ ?_
      · simp
        omega
      exact Run.retP tab_ok Tryd.func53 rfl trivial (fun M => rfl)
  | succ d ih =>
    intro k hk σ ht hh
    refine Run.to ?_ ht hh (n' := 0)
    have hx : (k : Int) < n ∧ k < 100 := by unfold nz at hk; omega
    have hsz : (⟨(zer k).toArray⟩ : ByteArray).size = k := by show (zer k).length = k; simp [zer]
    have hsz2 : (⟨#[48]⟩ : ByteArray).size = 1 := rfl
    refine RunF_sound tab_ok noX_local 100 [true, true] _ _ rfl ?_ ?_
    · simp [hsz, hsz2]
      omega
    refine ih (k + 1) (by omega) _ ⟨rfl, ?_, i64_eq (wrap_succ (by omega)), trivial⟩ trivial
    refine congrArg (fun z => some (AV.v (Value.string z))) ?_
    have hz : zer (k + 1) = zer k ++ [48] := by unfold zer; rw [List.replicate_succ']
    rw [hz]
    apply ByteArray.ext; simp
theorem noughts_enters : Enters Tryd.prog 53 := enters_mk Tryd.func53 (by decide) rfl
end Go.Proofs.YtpfanhbkjajocaaDoor

/-
  WordBack: the walk. Own work.
-/
namespace Go.Proofs.YtpfanhbkjajocaaDoor
open Go.AM
set_option maxRecDepth 100000

theorem app_l (A B : List UInt8) : (⟨A.toArray⟩ : ByteArray) ++ ⟨B.toArray⟩ = ⟨(A ++ B).toArray⟩ := by apply ByteArray.ext; simp
theorem cut_l (A : List UInt8) (k : Nat) (h : k ≤ A.length) : (⟨A.toArray⟩ : ByteArray).extract k A.length = ⟨(A.drop k).toArray⟩ := by
  apply ByteArray.ext
  simp [ByteArray.data_extract]
  rw [List.take_of_length_le (by simp)]

def sL (L : List (List UInt8)) : List Value := L.map fun l => .string ⟨l.toArray⟩
theorem sL_get (L : List (List UInt8)) (k : Nat) (h : k < L.length) : (sL L)[k]? = some (.string ⟨L[k].toArray⟩) := by simp [sL, h]
theorem strAt_sL (L : List (List UInt8)) (k : Nat) (h : k < L.length) : strAt (sL L) k = ⟨L[k].toArray⟩ := by
  unfold strAt; rw [sL_get L k h]

theorem txt_len (v : Int) (h0 : -9223372036854775808 ≤ v) (h1 : v ≤ 9223372036854775807) : 1 ≤ (txt v).length ∧ (txt v).length ≤ 65 := by
  by_cases h : v < 0
  · have := digB_len (b := 10) (by decide) v.natAbs 64 (by omega) (by decide)
    rw [txt_neg h]
    simp only [List.length_cons]
    omega
  · have := digB_len (b := 10) (by decide) v.toNat 64 (by omega) (by decide)
    have := List.length_pos_iff.2 (digB_ne (b := 10) (u := v.toNat) (by decide))
    rw [txt_pos h]
    omega
theorem first_l (L : List UInt8) : ((⟨L.toArray⟩ : ByteArray)[0]?.getD 0).toNat = (L[0]?.getD 0).toNat := by
  have := tk_list L 0
  unfold tk at this
  exact Int.ofNat.inj this
theorem txt_45 (v : Int) : ((⟨(txt v).toArray⟩ : ByteArray)[0]?.getD 0).toNat = 45 ↔ v < 0 := by
  rw [first_l]
  by_cases h : v < 0
  · rw [txt_neg h]
    exact ⟨fun _ => h, fun _ => rfl⟩
  · refine ⟨fun e => ?_, fun e => absurd e h⟩
    have hl := List.length_pos_iff.2 (digB_ne (b := 10) (u := v.toNat) (by decide))
    rw [txt_pos h, List.getElem?_eq_getElem hl] at e
    have := dU10 (dig_all (b := 10) (by decide) (by decide) v.toNat _ (List.getElem_mem hl))
    simp at e
    omega

set_option maxHeartbeats 2000000 in
theorem back_ok (v n : Int) (h0 : -9223372036854775808 ≤ v) (h1 : v ≤ 9223372036854775807) (w : World) (hT : TabAt w) (hP : PowAt w) : Gives Tryd.prog 8 [.int .i64 v, .int .i64 n] w (.bool true) := by
  refine Gives.of_run Tryd.func8 rfl (by show 2 ≤ 111; decide) ?_
  refine RunF_sound tab_ok noX_local 100 [] _ _ rfl ?_ ?_
  · simp
  refine Run.callFn (r := .bool true) noX_local rfl rfl rfl rfl rfl rfl rfl works_enters rfl (fun w' hA => works_ok w' (hT.agree hA (fun h => h)) (hP.agree hA)) ?_
  refine RunF_sound tab_ok noX_local 100 [false] _ _ rfl ?_ ?_
  · simp
  have hsix := read_six v n h0 h1
  have htl := txt_len v h0 h1
  have hul := digB_len (b := 10) (by decide) (uN v) 64 (uN_lt v) (by decide)
  have hhl := digB_len (b := 16) (by decide) (uN v) 64 (uN_lt v) (by decide)
  have hu1 := List.length_pos_iff.2 (digB_ne (b := 10) (u := uN v) (by decide))
  have hh1 := List.length_pos_iff.2 (digB_ne (b := 16) (u := uN v) (by decide))
  have hzl : (zer (nz n)).length ≤ 100 := by simp [zer, nz]; omega
  refine Run.callFn (r := .string ⟨(txt v).toArray⟩) noX_local rfl rfl rfl rfl rfl rfl rfl wtext_enters rfl (fun w' hA => wtext_ok v h0 h1 w' (hP.agree hA)) ?_
  refine RunF_sound tab_ok noX_local 100 [] _ _ rfl ?_ ?_
  · simp
  refine Run.callFn (r := .string ⟨(48 :: 120 :: digB 16 (uN v)).toArray⟩) noX_local rfl rfl rfl rfl rfl rfl rfl hex_enters rfl (fun w' hA => hex_ok v w' (hT.agree hA (fun h => h))) ?_
  refine RunF_sound tab_ok noX_local 100 [] _ _ rfl ?_ ?_
  · simp
  refine Run.callFn (r := .string ⟨(digB 10 (uN v)).toArray⟩) noX_local rfl rfl rfl rfl rfl rfl rfl uns_enters rfl (fun w' hA => uns_ok v w' (hP.agree hA)) ?_
  have hno := fun w' => noughts_ok n w'
  have hlng : v < 0 → lng v n = 45 :: (zer (nz n) ++ (txt v).drop 1) := fun h => by unfold lng; rw [if_pos h, txt_neg h]; rfl
  have hlng' : ¬ v < 0 → lng v n = zer (nz n) ++ txt v := fun h => by unfold lng; rw [if_neg h, txt_pos h]
  have ht45 : ((⟨(txt v).toArray⟩ : ByteArray)[0]?.getD 0).toNat = 45 ↔ v < 0 := txt_45 v
  generalize digB 16 (uN v) = Hx at *
  generalize digB 10 (uN v) = Ux at *
  generalize zer (nz n) = Zn at *
  generalize lng v n = Ln at *
  generalize txt v = Tx at *
  have s1 : (⟨Tx.toArray⟩ : ByteArray).size = Tx.length := rfl
  have s2 : (⟨Ux.toArray⟩ : ByteArray).size = Ux.length := rfl
  have s3 : (⟨Zn.toArray⟩ : ByteArray).size = Zn.length := rfl
  have s4 : (⟨(48 :: 120 :: Hx).toArray⟩ : ByteArray).size = Hx.length + 2 := rfl
  refine RunF_sound tab_ok noX_local 100 [false, false, false] _ _ rfl ?_ ?_
  · simp [s1, s2, s4]
    omega
  refine Run.callFn (r := .string ⟨Zn.toArray⟩) noX_local rfl rfl rfl rfl rfl rfl rfl noughts_enters rfl (fun w' _ => hno w') ?_
  suffices G : ∀ σ, inT σ.t [(0, .v (.int .i64 v)), (1, .v (.int .i64 n)), (5, .v (.string ⟨Tx.toArray⟩)), (6, .v (.string ⟨(48 :: 120 :: Hx).toArray⟩)), (7, .v (.string ⟨Ux.toArray⟩)), (8, .v (.string ⟨Ln.toArray⟩))] → inT σ.h [] →
      Run (fnP Tryd.prog 8 (Tryd.f8).ntmps w (.bool true)) _ σ by
    by_cases hv : v < 0
    · refine RunF_sound tab_ok noX_local 100 [true] _ _ rfl ?_ ?_
      · have := ht45.2 hv
        simp [s1, s3]
        omega
      refine Run.drawA noX_local rfl [] [] rfl rfl trivial ?_
      refine RunOF_sound tab_ok noX_local rfl rfl 100 [] _ _ rfl ?_ ?_
      · simp [s1]
        omega
      refine RunO.callFn (r := .string ⟨Zn.toArray⟩) noX_local rfl rfl rfl rfl rfl rfl rfl rfl noughts_enters rfl (fun w' _ => hno w') ?_
      refine RunOF_sound tab_ok noX_local rfl rfl 100 [] _ _ rfl ?_ ?_
      · have s5 : (⟨#[45]⟩ : ByteArray).size = 1 := rfl
        simp [s1, s3, s5]
        omega
      refine RunO.done ?_
      refine RunF_sound tab_ok noX_local 100 [] _ _ rfl ?_ ?_
      · simp
      refine G _ ⟨rfl, rfl, rfl, rfl, rfl, ?_, trivial⟩ trivial
      refine congrArg (fun z => some (AV.v (Value.string z))) ?_
      rw [hlng hv]
      have e1 : (⟨Tx.toArray⟩ : ByteArray).extract (Int.toNat 1) (⟨Tx.toArray⟩ : ByteArray).size = ⟨(Tx.drop 1).toArray⟩ := cut_l Tx 1 htl.1
      rw [e1]
      have e2 : (⟨#[45]⟩ : ByteArray) = ⟨[45].toArray⟩ := rfl
      rw [e2, app_l, app_l]
      rfl
    · refine RunF_sound tab_ok noX_local 100 [false] _ _ rfl ?_ ?_
      · have := fun h => hv (ht45.1 h)
        simp [s1, s3]
        omega
      refine G _ ⟨rfl, rfl, rfl, rfl, rfl, ?_, trivial⟩ trivial
      rw [hlng' hv]
      exact congrArg (fun z => some (AV.v (Value.string z))) (app_l _ _)
  intro σ ht hh
  refine Run.to ?_ ht hh (n' := 0)
  have s6 : (⟨#[48, 88]⟩ : ByteArray).size = 2 := rfl
  have hcut : (⟨(48 :: 120 :: Hx).toArray⟩ : ByteArray).extract (Int.toNat 2) (⟨(48 :: 120 :: Hx).toArray⟩ : ByteArray).size = ⟨Hx.toArray⟩ := cut_l (48 :: 120 :: Hx) 2 (by simp)
  suffices H : ∀ (d k : Nat), k + d = 6 → ∀ σ, inT σ.t [(0, .v (.int .i64 v)), (9, .ptr 0 0), (10, .v (.int .i64 (k : Int)))] → inT σ.h [(0, .cells 70 [.vals 6 (sL [Tx, (48 :: 120 :: Hx), Ux, Ln, ([48, 88] ++ Zn ++ Hx), (Zn ++ Ux)])])] → Run (fnP Tryd.prog 8 (Tryd.f8).ntmps w (.bool true)) _ σ by
    refine Run.drawF2 noX_local rfl 15 5 11 rfl rfl [] [] rfl rfl rfl rfl rfl rfl trivial ?_ ?_ ?_
    all_goals
      refine RunOF_sound tab_ok noX_local rfl rfl 100 [] _ _ rfl ?_ ?_
      · simp [s4]
        (repeat' refine And.intro ?_ ?_) <;> first | omega | rfl | trivial
      refine RunO.callFn (r := .string ⟨Zn.toArray⟩) noX_local rfl rfl rfl rfl rfl rfl rfl rfl noughts_enters rfl (fun w' _ => hno w') ?_
      refine RunOF_sound tab_ok noX_local rfl rfl 100 [] _ _ rfl ?_ ?_
      · simp [s3, s6]
        (repeat' refine And.intro ?_ ?_) <;> first | omega | rfl | trivial
      refine RunO.callFn (r := .string ⟨Zn.toArray⟩) noX_local rfl rfl rfl rfl rfl rfl rfl rfl noughts_enters rfl (fun w' _ => hno w') ?_
      refine RunOF_sound tab_ok noX_local rfl rfl 100 [] _ _ rfl ?_ ?_
      · simp [s2, s3]
        (repeat' refine And.intro ?_ ?_) <;> first | omega | rfl | trivial
      simp only [hcut, app_l]
      refine RunO.build (z := .v (.agg ([.string ⟨Tx.toArray⟩, .string ⟨(48 :: 120 :: Hx).toArray⟩, .string ⟨Ux.toArray⟩, .string ⟨Ln.toArray⟩, .string ⟨([48, 88] ++ Zn ++ Hx).toArray⟩, .string ⟨(Zn ++ Ux).toArray⟩] : List Value).toArray)) tab_ok rfl rfl rfl rfl rfl rfl rfl ?_ ?_
      · simp [fillL, Value.cells, splice]
        decide
      refine RunOF_sound tab_ok noX_local rfl rfl 100 [] _ _ rfl ?_ ?_
      · simp [Value.oneCell']
        (repeat' refine And.intro ?_ ?_) <;> first | rfl | trivial
      refine RunO.done ?_
      refine RunF_sound tab_ok noX_local 100 [] _ _ rfl ?_ ?_
      · simp
      exact H 6 0 rfl _ ⟨rfl, rfl, rfl, trivial⟩ ⟨rfl, trivial⟩
  have hLn : Ln.length ≤ 300 := by
    by_cases hv : v < 0
    · rw [hlng hv]; simp; omega
    · rw [hlng' hv]; simp; omega
  have hpn : ∀ (A : List UInt8), A.length ≤ 300 → ReadsAs A v → (∀ w', Gives Tryd.prog 54 [.string ⟨A.toArray⟩] w' (.tuple #[.int .i64 v, .int .i64 0])) ∧ (∀ w', Gives Tryd.prog 55 [.string (⟨A.toArray⟩ ++ ⟨#[32]⟩), .int .i64 0] w' (.tuple #[.int .i64 v, .int .i64 (A.length : Int), .int .i64 0])) := fun A hA hr => by
    refine ⟨fun w' => ?_, fun w' => ?_⟩
    · have h2 := parse_ok ⟨A.toArray⟩ w' (by show A.length ≤ maxLen; simp only [maxLen]; omega)
      rw [hr.1] at h2
      exact h2
    · have h2 := next_ok ⟨(A ++ [32]).toArray⟩ 0 w' (by show (A ++ [32]).length ≤ maxLen; simp only [maxLen, List.length_append, List.length_singleton]; omega)
      rw [hr.2] at h2
      have e : (⟨A.toArray⟩ : ByteArray) ++ ⟨#[32]⟩ = ⟨(A ++ [32]).toArray⟩ := app_l A [32]
      rw [e]
      exact h2
  have s7 : (⟨#[32]⟩ : ByteArray).size = 1 := rfl
  have hall : ∀ A ∈ ([Tx, (48 :: 120 :: Hx), Ux, Ln, ([48, 88] ++ Zn ++ Hx), (Zn ++ Ux)] : List (List UInt8)), A.length ≤ 300 ∧ ReadsAs A v := by
    obtain ⟨q1, q2, q3, q4, q5, q6⟩ := hsix
    intro A hA
    simp only [List.mem_cons, List.not_mem_nil, or_false] at hA
    rcases hA with rfl | rfl | rfl | rfl | rfl | rfl
    · exact ⟨by omega, q1⟩
    · exact ⟨by simp; omega, q2⟩
    · exact ⟨by omega, q3⟩
    · exact ⟨hLn, q4⟩
    · exact ⟨by simp; omega, q5⟩
    · exact ⟨by simp; omega, q6⟩
  have hLL : ([Tx, (48 :: 120 :: Hx), Ux, Ln, ([48, 88] ++ Zn ++ Hx), (Zn ++ Ux)] : List (List UInt8)).length = 6 := rfl
  generalize ([Tx, (48 :: 120 :: Hx), Ux, Ln, ([48, 88] ++ Zn ++ Hx), (Zn ++ Ux)] : List (List UInt8)) = LL at *
  intro d
  induction d with
  | zero =>
    intro k hk σ ht hh
    obtain rfl : k = 6 := by omega
    refine Run.to ?_ ht hh (n' := 1)
    refine RunF_sound tab_ok noX_local 100 [false] _ _ rfl ?_ ?_
    · simp
    exact Run.retP tab_ok Tryd.func8 rfl trivial (fun M => rfl)
  | succ d ih =>
    intro k hk σ ht hh
    refine Run.to ?_ ht hh (n' := 1)
    have hkl : k < LL.length := by omega
    obtain ⟨g1, g2⟩ := hall _ (List.getElem_mem hkl)
    obtain ⟨hp1, hp2⟩ := hpn LL[k] g1 g2
    have hst := strAt_sL LL k hkl
    have hgt := sL_get LL k hkl
    have hsl : (sL LL).length = 6 := by simp [sL, hLL]
    have s8 : (⟨LL[k].toArray⟩ : ByteArray).size = LL[k].length := rfl
    generalize LL[k] = A at *
    generalize sL LL = VV at *
    refine RunF_sound tab_ok noX_local 100 [true] _ _ rfl ?_ ?_
    · simp only [Nat.zero_add, Nat.sub_zero, Nat.mul_one, Int.toNat_natCast, hst, hgt]
      simp
      omega
    simp only [Nat.zero_add, Nat.sub_zero, Nat.mul_one, Int.toNat_natCast, hst]
    refine Run.callFn (r := .tuple #[.int .i64 v, .int .i64 0]) noX_local rfl rfl rfl rfl rfl rfl rfl parse_enters rfl (fun w' _ => hp1 w') ?_
    refine RunF_sound tab_ok noX_local 100 [] _ _ rfl ?_ ?_
    · simp only [Nat.zero_add, Nat.sub_zero, Nat.mul_one, Int.toNat_natCast, hst, hgt]
      simp [s7, s8]
      omega
    simp only [Nat.zero_add, Nat.sub_zero, Nat.mul_one, Int.toNat_natCast, hst]
    refine Run.callFn (r := .tuple #[.int .i64 v, .int .i64 (A.length : Int), .int .i64 0]) noX_local rfl rfl rfl rfl rfl rfl rfl next_enters rfl (fun w' _ => hp2 w') ?_
    refine RunF_sound tab_ok noX_local 100 [] _ _ rfl ?_ ?_
    · simp
    refine Run.callFn (r := .int .i64 0) noX_local rfl rfl rfl rfl rfl rfl rfl num_enters rfl (fun w' _ => num_ok 0 w') ?_
    refine RunF_sound tab_ok noX_local 100 [false, false] _ _ rfl ?_ ?_
    · simp
    refine Run.callFn (r := .int .i64 0) noX_local rfl rfl rfl rfl rfl rfl rfl num_enters rfl (fun w' _ => num_ok 0 w') ?_
    refine RunF_sound tab_ok noX_local 100 [false, false, false] _ _ rfl ?_ ?_
    · simp only [Nat.zero_add, Nat.sub_zero, Nat.mul_one, Int.toNat_natCast, hst, hgt]
      simp [s8]
      omega
    exact ih (k + 1) (by omega) _ ⟨rfl, rfl, i64_eq (wrap_succ (by omega)), trivial⟩ ⟨rfl, trivial⟩
end Go.Proofs.YtpfanhbkjajocaaDoor
