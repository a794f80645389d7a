/-
  Own work, merged: J4, J6.
-/
import Derived.AtR
import Derived.Below
import Derived.ChangeKeysEq
import Derived.KernelRfl
import Derived.Laws.AppendOwn
import Derived.Laws.BytesString
import Derived.Laws.Cells
import Derived.Laws.CopyRow
import Derived.Laws.Entries
import Derived.Laws.IdiomStrings
import Derived.Laws.Rows
import Derived.Laws.Slices
import Derived.Laws.Small
import Derived.Laws.StructEq
import Derived.Lib.AppendIntMem
import Derived.Lib.ItoaMem
import Derived.Lib.ItoaNum
import Derived.Lib.TrailingZeros
import Derived.Maps.AppendAt
import Derived.Orders
import Derived.RangeFuncRecord
import Derived.Shelf.Lay
import Derived.Shelf.Strconv.Itoa4
import Derived.Test.YtpfanhbkjajocaaDoorChecked
import Derived.Test.YtpfanhbkjajocaaDoorProg
import Derived.Test.YtpfanhbkjajocaaDoorQ14919E
/-
  strconv.FormatUint at base 10: the numeral. Turned after the shelf's walks of FormatInt and AppendUint at base 10.
-/
namespace Go.Proofs
open Go.Shelf Go.RowKit Go.Sort Go.Lib

set_option maxHeartbeats 6400000 in
set_option maxRecDepth 100000 in
theorem Tryd.uint10_small (i : Nat) (hi : i < 100) (w : World) :
    Calls Tryd.prog 81 #[.int .u64 i, .int .i64 10] w fun e w' => e = .returned (.string ⟨(Lib.decDigits i).toArray⟩) ∧ w' = w := by
  have L := Tryd.laysM173
  have mixed := L.mixed
  have t22 := Tryd.underlying22; have a22 := Tryd.isAgg22; have z22 := Tryd.sizeOf22; have v22 := Tryd.zeroValue22
  have t3 := Tryd.underlying3; have a3 := Tryd.isAgg3; have z3 := Tryd.sizeOf3; have v3 := Tryd.zeroValue3
  have t9 := Tryd.underlying9; have a9 := Tryd.isAgg9; have z9 := Tryd.sizeOf9; have v9 := Tryd.zeroValue9
  have e87 : ∀ args w, (callFunc 87 args).run Tryd.prog w = .ok (.enter 87 args) w := enters_of Tryd.func87 (by kernel_rfl) rfl
  have hsm : ∀ W, Calls Tryd.prog 87 #[.int .i64 i] W fun e w' => e = .returned (.string ⟨(Lib.decDigits i).toArray⟩) ∧ w' = W := fun W => Any.internal_strconv_small { L with } i hi W
  go_enter Tryd.func81, Tryd.ntmps81
  go_wp2_with (go_at_fn 87; refine (hsm _).mono ?_; rintro e w' ⟨rfl, rfl⟩)
  go_ret
  exact ⟨rfl, rfl⟩

set_option maxHeartbeats 6400000 in
set_option maxRecDepth 100000 in
theorem Tryd.uint10_big (u : Nat) (hu : 100 ≤ u) (hu64 : u < 18446744073709551616) (w : World) (htab : Lib.TabIs Tryd.prog w "internal/strconv.uint64pow10" .u64 Lib.pow10Tab) :
    Calls Tryd.prog 81 #[.int .u64 u, .int .i64 10] w fun e w' => e = .returned (.string ⟨(Lib.decDigits u).toArray⟩) ∧ ∃ k os, w' = grow (w.drewN k) os := by
  have L := Tryd.laysM173
  have mixed := L.mixed
  have t22 := Tryd.underlying22; have a22 := Tryd.isAgg22; have z22 := Tryd.sizeOf22; have v22 := Tryd.zeroValue22
  have t3 := Tryd.underlying3; have a3 := Tryd.isAgg3; have z3 := Tryd.sizeOf3; have v3 := Tryd.zeroValue3
  have t9 := Tryd.underlying9; have a9 := Tryd.isAgg9; have z9 := Tryd.sizeOf9; have v9 := Tryd.zeroValue9
  have t5 := Tryd.underlying5; have a5 := Tryd.isAgg5; have z5 := Tryd.sizeOf5; have v5 := Tryd.zeroValue5
  have t92 := Tryd.underlying92; have a92 := Tryd.isAgg92; have z92 := Tryd.sizeOf92; have v92 := Tryd.zeroValue92
  have t111 := Tryd.underlying111; have a111 := Tryd.isAgg111; have z111 := Tryd.sizeOf111; have v111 := Tryd.zeroValue111
  have e88 : ∀ args w, (callFunc 88 args).run Tryd.prog w = .ok (.enter 88 args) w := enters_of Tryd.func88 (by kernel_rfl) rfl
  have e89 : ∀ args w, (callFunc 89 args).run Tryd.prog w = .ok (.enter 89 args) w := enters_of Tryd.func89 (by kernel_rfl) rfl
  have hu1 : 1 ≤ u := by omega
  have hnd20 : Lib.nDigits u ≤ 20 := by have := Lib.numDigits_eq u hu1 hu64; split at this <;> omega
  have hal : Tryd.prog.arrayLen 111 = 24 := by simp [Program.arrayLen, t111]
  have hsl : ∀ W, (Instr.sliceAt 111 (.pointer (some ⟨w.heap.size, 0, none⟩)) none (some (.int .i64 (Lib.nDigits u : Int))) none).run Tryd.prog W = .ok (.slice (some ⟨w.heap.size, 0, none⟩) (Lib.nDigits u) 24) W := fun W => by
    rw [run_sliceAt_array_h W 111 ⟨w.heap.size, 0, none⟩ (by simp [Program.arrayLen, Program.elem, t111]) .i64 (Lib.nDigits u : Int) (by omega) (by rw [hal]; omega)]
    go_simp
  have hH0 := Lib.holds_zero0 w 111 (Lib.nDigits u) (by omega)
  have hfmt : Calls Tryd.prog 89 #[.slice (some ⟨w.heap.size, 0, none⟩) (Array.replicate (Lib.nDigits u) (0 : UInt8)).size 24, .int .u64 u] (w.alloc (.cells Lib.zeros24 111)) fun e w' =>
      e = .returned (.tuple #[]) ∧ ∃ (n v' : Nat) (dk : Array UInt8), w' = (putRow (fun (b : UInt8) => Value.int .u8 (b.toNat : Int)) (w.alloc (.cells Lib.zeros24 111)) w.heap.size 0 dk).drewN n ∧ FmtInv (Array.replicate (Lib.nDigits u) (0 : UInt8)).size u 0 v' dk :=
    Any.internal_strconv_formatBase10 { L with } w.heap.size 0 24 u (Array.replicate (Lib.nDigits u) 0) (w.alloc (.cells Lib.zeros24 111)) hH0 (by rw [Array.size_replicate]; exact Lib.lt_pow_nDigits u) hu64 (by rw [Array.size_replicate]; omega)
  rw [Array.size_replicate] at hfmt
  have hnum : ∀ W, Lib.TabIs Tryd.prog W "internal/strconv.uint64pow10" .u64 Lib.pow10Tab → Calls Tryd.prog 88 #[.int .u64 u] W fun e w' => e = .returned (.int .i64 (Lib.nDigits u)) ∧ w' = W := fun W h => Any.internal_strconv_numDigits { L with } u hu1 hu64 W h
  have HH0 := Lib.hid hH0
  have iu : (100 : Int) ≤ (u : Int) := by omega
  clear hH0 hal L
  go_enter Tryd.func81, Tryd.ntmps81
  go_wp2_with (first
    | (go_at_fn 88; refine (hnum _ (Lib.tabIs_alloc htab _)).mono ?_; rintro e w' ⟨rfl, rfl⟩))
  go_at_fn 89
  refine hfmt.mono ?_
  rintro e w' ⟨rfl, k, v', dk, rfl, hF⟩
  have hcv : (convert 92 9 (.slice (some ⟨w.heap.size, 0, none⟩) (Lib.nDigits u) 24)).run Tryd.prog ((putRow (fun (b : UInt8) => Value.int .u8 (b.toNat : Int)) (w.alloc (.cells Lib.zeros24 111)) w.heap.size 0 dk).drewN k) = .ok (.string ⟨(Lib.decDigits u).toArray⟩) ((putRow (fun (b : UInt8) => Value.int .u8 (b.toNat : Int)) (w.alloc (.cells Lib.zeros24 111)) w.heap.size 0 dk).drewN k) := by
    have h := run_convert_bytes_back (P := Tryd.prog) ((putRow (fun (b : UInt8) => Value.int .u8 (b.toNat : Int)) (w.alloc (.cells Lib.zeros24 111)) w.heap.size 0 dk).drewN k) 92 9 5 ⟨w.heap.size, 0, none⟩ 24 (Lib.decDigits u) t92 t5 t9 (fun j hj => by
      rw [Lib.row_is_numeral hF j hj, Lib.add_plain, World.cell?_drewN]
      exact cell?_putRow (fun (b : UInt8) => Value.int .u8 (b.toNat : Int)) _ w.heap.size 0 _ dk HH0.out (by rw [hF.size, Array.size_replicate]) j (by rw [hF.size]; rw [Lib.decDigits_length] at hj; exact hj))
    rw [Lib.decDigits_length] at h
    exact h
  go_wp2
  go_ret
  obtain ⟨os, eo⟩ := Lib.fin_at w (.cells Lib.zeros24 111) dk k 0
  exact ⟨rfl, k, os, eo⟩
end Go.Proofs

/-
  strconv.FormatInt and FormatUint, as our calls know them; at base 16 its own text is walked. Own work.
-/
namespace Go.Proofs.YtpfanhbkjajocaaDoor
open Go.AM
set_option maxRecDepth 100000

/-- The table of strconv as its initialiser lays it. -/
def PowAt (w : World) : Prop := Lib.TabIs Tryd.prog w "internal/strconv.uint64pow10" .u64 Lib.pow10Tab
theorem PowAt.agree {w w' : World} (h : PowAt w) (hA : Agree (fun _ => False) w w') : PowAt w' := Lib.tabBelow_of_tabIs h w' hA.below

theorem grow_agree (w : World) (k : Nat) (os : Array Obj) : Agree (fun _ => False) w (Sort.grow (w.drewN k) os) := Agree.of_below (Lib.below_grow w.heap.size w (Nat.le_refl _) k os)

theorem uint10I_ok (u : Nat) (hu : u < 2 ^ 64) (w : World) (hP : PowAt w) : Gives Tryd.prog 81 [.int .u64 (u : Int), .int .i64 10] w (.string ⟨(digB 10 u).toArray⟩) := by
  rw [digB_10]
  rcases Nat.lt_or_ge u 100 with h | h
  · exact Calls.mono' (Tryd.uint10_small u h w) fun e w' ⟨h1, h2⟩ => ⟨h1, by rw [h2]; exact Agree.refl _ _⟩
  · exact Calls.mono' (Tryd.uint10_big u h hu w hP) fun e w' ⟨h1, k, os, h2⟩ => ⟨h1, by rw [h2]; exact grow_agree w k os⟩
theorem uintI_enters : Enters Tryd.prog 81 := enters_mk Tryd.func81 (by decide) rfl

theorem uint10_ok (u : Nat) (hu : u < 2 ^ 64) (w : World) (hP : PowAt w) : Gives Tryd.prog 72 [.int .u64 (u : Int), .int .i64 10] w (.string ⟨(digB 10 u).toArray⟩) := by
  refine Gives.of_run Tryd.func72 rfl (by show 2 ≤ 8; decide) ?_
  refine RunF_sound tab_ok noX_local 100 [] _ _ rfl ?_ ?_
  · simp
  refine Run.callFn (r := .string ⟨(digB 10 u).toArray⟩) noX_local rfl rfl rfl rfl rfl rfl rfl uintI_enters rfl (fun w' hA => uint10I_ok u hu w' (hP.agree hA)) ?_
  refine RunF_sound tab_ok noX_local 100 [] _ _ rfl ?_ ?_
  · simp
  exact Run.retP tab_ok Tryd.func72 rfl trivial (fun M => rfl)
theorem uint_enters : Enters Tryd.prog 72 := enters_mk Tryd.func72 (by decide) rfl

theorem int10_ok (n : Int) (h0 : -9223372036854775808 ≤ n) (h1 : n ≤ 9223372036854775807) (w : World) (hP : PowAt w) : Gives Tryd.prog 70 [.int .i64 n, .int .i64 10] w (.string ⟨(Lib.itoa n).toArray⟩) :=
  Calls.mono' (Any.strconv_FormatInt_10 Tryd.laysM173 n h0 h1 w hP) fun e w' ⟨h1, k, os, h2⟩ => ⟨h1, by rw [h2]; exact grow_agree w k os⟩
theorem int_enters : Enters Tryd.prog 70 := enters_mk Tryd.func70 (by decide) rfl

theorem two_ok (w : World) : Gives Tryd.prog 97 [.int .i64 16] w (.bool true) := by
  refine Gives.of_run Tryd.func97 rfl (by show 1 ≤ 8; decide) ?_
  refine RunF_sound tab_ok noX_local 100 [] _ _ rfl ?_ ?_
  · simp
  exact Run.retP tab_ok Tryd.func97 rfl trivial (fun M => rfl)
theorem two_enters : Enters Tryd.prog 97 := enters_mk Tryd.func97 (by decide) rfl

theorem tz64_enters : Enters Tryd.prog 62 := enters_mk Tryd.func62 (by decide) rfl
theorem tz16_ok (w : World) (hT : TabAt w) : Gives Tryd.prog 98 [.int .u64 16] w (.int .i64 4) := by
  refine Gives.of_run Tryd.func98 rfl (by show 1 ≤ 8; decide) ?_
  refine RunF_sound tab_ok noX_local 100 [] _ _ rfl ?_ ?_
  · simp
  refine Run.callFn (r := .int .i64 4) noX_local rfl rfl rfl rfl rfl rfl rfl tz64_enters rfl (fun w' hA => ?_) ?_
  · have := tz_ok 16#64 w' (hT.agree hA (fun h => h))
    have e : tzI 16#64 = 4 := by decide +kernel
    rw [e] at this
    exact this
  refine RunF_sound tab_ok noX_local 100 [] _ _ rfl ?_ ?_
  · simp
  exact Run.retP tab_ok Tryd.func98 rfl trivial (fun M => rfl)
theorem tz16_enters : Enters Tryd.prog 98 := enters_mk Tryd.func98 (by decide) rfl
end Go.Proofs.YtpfanhbkjajocaaDoor
