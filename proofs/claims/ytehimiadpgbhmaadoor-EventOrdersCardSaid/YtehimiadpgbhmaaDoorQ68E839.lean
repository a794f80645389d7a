/-
  Own work, merged: T2, T3, T4, T5, T6, T7, T8, AM44, T9, T10.
-/
import Derived.AtR
import Derived.Below
import Derived.ChangeKeysEq
import Derived.KernelRfl
import Derived.Laws.AppendOwn
import Derived.Laws.BytesString
import Derived.Laws.Cells
import Derived.Laws.CopyRow
import Derived.Laws.Entries
import Derived.Laws.Rows
import Derived.Laws.Small
import Derived.Laws.StructEq
import Derived.Lib.TrailingZeros
import Derived.MapKept
import Derived.Maps.AppendAt
import Derived.Orders
import Derived.RangeFuncRecord
import Derived.Test.YtehimiadpgbhmaaDoorProg
import Derived.Test.YtehimiadpgbhmaaDoorQD6256C
/-
  The longest name at a text's head; names and registers. Own work; the walks of chains of tests printed by a program of our own (tools/gen_t2.py).
-/
namespace Go.Proofs.YtehimiadpgbhmaaDoor
open Go.AM
set_option maxRecDepth 100000

def contB (c d : Int) : Bool := letB c || (digB c || (decide (c = 46) || ((decide (c = 43) || decide (c = 45)) && (letB d || digB d))))
def nameFrom (s : ByteArray) : Nat → Nat → Nat
  | i, 0 => i
  | i, d + 1 => if contB (byt s i) (byt s (i + 1)) = true then nameFrom s (i + 1) d else i
def nameN (s : ByteArray) : Nat := if s.size = 0 then 0 else if letB (byt s 0) = true then nameFrom s 1 (s.size - 1) else 0

theorem size_toList {s : ByteArray} (h : s.size = 0) : s.toList = [] := by
  obtain ⟨⟨l⟩⟩ := s
  have : l = [] := List.eq_nil_of_length_eq_zero h
  subst this; rw [ByteArray.toList_eq]
theorem toList_size {s : ByteArray} (h : s.toList = []) : s.size = 0 := by
  rw [ByteArray.toList_eq] at h
  show s.data.size = 0
  rw [← Array.length_toList, h]; rfl

set_option maxHeartbeats 1000000 in
theorem name_ok (s : ByteArray) (w : World) (hs : s.size ≤ 64) : Gives Tryd.prog 50 [.string s] w (.int .i64 (nameN s)) := by
  refine Gives.of_run Tryd.func50 rfl (by show 1 ≤ 52; decide) ?_
  by_cases h0 : s.size = 0
  · have e := size_toList h0
    refine RunF_sound tab_ok noX_local 100 [true, true] _ _ rfl ?_ ?_
    · simp [e]
    refine Run.retP tab_ok Tryd.func50 rfl trivial (fun M => ?_)
    simp [conc, nameN, h0]
  have e : ¬ s.toList = [] := fun h => h0 (toList_size h)
  refine RunF_sound tab_ok noX_local 100 [false] _ _ rfl ?_ ?_
  · simp [e]; omega
  refine Run.callFn (r := .bool (letB (byt s 0))) noX_local rfl rfl rfl rfl rfl rfl rfl letter_enters rfl (fun w' _ => letter_ok (byt s 0) w') ?_
  cases hl : letB (byt s 0) with
  | false =>
    refine RunF_sound tab_ok noX_local 100 [true] _ _ rfl ?_ ?_
    · simp
    refine Run.retP tab_ok Tryd.func50 rfl trivial (fun M => ?_)
    simp [conc, nameN, h0, hl]
  | true =>
  have hN : nameN s = nameFrom s 1 (s.size - 1) := by simp [nameN, h0, hl]
  rw [hN]
  refine RunF_sound tab_ok noX_local 100 [false] _ _ rfl ?_ ?_
  · simp
  suffices H : ∀ (d i : Nat), 1 ≤ i → i + d = s.size → nameFrom s 1 (s.size - 1) = nameFrom s i d → ∀ σ, inT σ.t [(0, .v (.string s)), (3, .v (.int .i64 (i : Int)))] → Run _ _ σ by
    exact H (s.size - 1) 1 (by omega) (by omega) rfl _ ⟨rfl, rfl, trivial⟩
  intro d
  induction d with
  | zero =>
    intro i hi1 hi hr σ ht
    refine Run.to ?_ ht (h' := []) trivial (n' := 0)
    refine RunF_sound tab_ok noX_local 100 [] _ _ rfl ?_ ?_
    · simp
    refine Run.callFn (r := .int .u8 (byt s i)) noX_local rfl rfl rfl rfl rfl rfl rfl byteAt_enters rfl (fun w' _ => byteAt_ok s i w') ?_
    refine RunF_sound tab_ok noX_local 100 [] _ _ rfl ?_ ?_
    · simp
    refine Run.callFn (r := .int .u8 (byt s (i + 1))) noX_local rfl rfl rfl rfl rfl rfl rfl byteAt_enters rfl (fun w' _ => by have := byteAt_ok s (i + 1) w'; rw [← wrap_succ (show i < 9223372036854775807 by omega)] at this; exact this) ?_
    refine RunF_sound tab_ok noX_local 100 [true] _ _ rfl ?_ ?_
    · simp; omega
    exact Run.retP tab_ok Tryd.func50 rfl trivial (fun M => by rw [hr]; rfl)
  | succ d ih =>
    intro i hi1 hi hr σ ht
    refine Run.to ?_ ht (h' := []) trivial (n' := 0)
    refine RunF_sound tab_ok noX_local 100 [] _ _ rfl ?_ ?_
    · simp
    refine Run.callFn (r := .int .u8 (byt s i)) noX_local rfl rfl rfl rfl rfl rfl rfl byteAt_enters rfl (fun w' _ => byteAt_ok s i w') ?_
    refine RunF_sound tab_ok noX_local 100 [] _ _ rfl ?_ ?_
    · simp
    refine Run.callFn (r := .int .u8 (byt s (i + 1))) noX_local rfl rfl rfl rfl rfl rfl rfl byteAt_enters rfl (fun w' _ => by have := byteAt_ok s (i + 1) w'; rw [← wrap_succ (show i < 9223372036854775807 by omega)] at this; exact this) ?_
    have hgo : contB (byt s i) (byt s (i + 1)) = true → nameFrom s i (d + 1) = nameFrom s (i + 1) d := fun h => by rw [nameFrom, if_pos h]
    have hst : contB (byt s i) (byt s (i + 1)) = false → nameFrom s i (d + 1) = i := fun h => by rw [nameFrom, if_neg (by rw [h]; exact Bool.false_ne_true)]
    have hnx := fun h => ih (i + 1) (by omega) (by omega) (hr.trans (hgo h))
    generalize byt s i = c at *
    generalize byt s (i + 1) = e at *
    refine RunF_sound tab_ok noX_local 100 [false] _ _ rfl ?_ ?_
    · simp; omega
    refine Run.callFn (r := .bool (letB c)) noX_local rfl rfl rfl rfl rfl rfl rfl letter_enters rfl (fun w' _ => letter_ok c w') ?_

    cases h1 : letB c with
    | true =>
      refine RunF_sound tab_ok noX_local 100 [true, true] _ _ rfl ?_ ?_
      · simp
      exact hnx (by simp [contB, h1]) _ ⟨rfl, i64_eq (wrap_succ (by omega)), trivial⟩
    | false =>
      refine RunF_sound tab_ok noX_local 100 [false] _ _ rfl ?_ ?_
      · simp
      refine Run.callFn (r := .bool (digB c)) noX_local rfl rfl rfl rfl rfl rfl rfl digit_enters rfl (fun w' _ => digit_ok c w') ?_
      cases h2 : digB c with
      | true =>
        refine RunF_sound tab_ok noX_local 100 [true, true] _ _ rfl ?_ ?_
        · simp
        exact hnx (by simp [contB, h1, h2]) _ ⟨rfl, i64_eq (wrap_succ (by omega)), trivial⟩
      | false =>
        by_cases h3 : c = 46
        · subst h3
          refine RunF_sound tab_ok noX_local 100 [false, true] _ _ rfl ?_ ?_
          · simp
          exact hnx (by simp [contB, h1, h2]) _ ⟨rfl, i64_eq (wrap_succ (by omega)), trivial⟩
        · by_cases h4 : c = 43
          · subst h4
            refine RunF_sound tab_ok noX_local 100 [false, false, true] _ _ rfl ?_ ?_
            · simp
            refine Run.callFn (r := .bool (letB e)) noX_local rfl rfl rfl rfl rfl rfl rfl letter_enters rfl (fun w' _ => letter_ok e w') ?_
            cases h6 : letB e with
            | true =>
              refine RunF_sound tab_ok noX_local 100 [true, true] _ _ rfl ?_ ?_
              · simp
              exact hnx (by simp [contB, h1, h2, h6]) _ ⟨rfl, i64_eq (wrap_succ (by omega)), trivial⟩
            | false =>
              refine RunF_sound tab_ok noX_local 100 [false] _ _ rfl ?_ ?_
              · simp
              refine Run.callFn (r := .bool (digB e)) noX_local rfl rfl rfl rfl rfl rfl rfl digit_enters rfl (fun w' _ => digit_ok e w') ?_
              cases h7 : digB e with
              | true =>
                refine RunF_sound tab_ok noX_local 100 [true] _ _ rfl ?_ ?_
                · simp
                exact hnx (by simp [contB, h1, h2, h6, h7]) _ ⟨rfl, i64_eq (wrap_succ (by omega)), trivial⟩
              | false =>
                refine RunF_sound tab_ok noX_local 100 [false] _ _ rfl ?_ ?_
                · simp
                refine Run.retP tab_ok Tryd.func50 rfl trivial (fun M => ?_)
                rw [hr, hst (by simp [contB, h1, h2, h6, h7])]; rfl
          · by_cases h5 : c = 45
            · subst h5
              refine RunF_sound tab_ok noX_local 100 [false, false, false, true] _ _ rfl ?_ ?_
              · simp
              refine Run.callFn (r := .bool (letB e)) noX_local rfl rfl rfl rfl rfl rfl rfl letter_enters rfl (fun w' _ => letter_ok e w') ?_
              cases h6 : letB e with
              | true =>
                refine RunF_sound tab_ok noX_local 100 [true, true] _ _ rfl ?_ ?_
                · simp
                exact hnx (by simp [contB, h1, h2, h6]) _ ⟨rfl, i64_eq (wrap_succ (by omega)), trivial⟩
              | false =>
                refine RunF_sound tab_ok noX_local 100 [false] _ _ rfl ?_ ?_
                · simp
                refine Run.callFn (r := .bool (digB e)) noX_local rfl rfl rfl rfl rfl rfl rfl digit_enters rfl (fun w' _ => digit_ok e w') ?_
                cases h7 : digB e with
                | true =>
                  refine RunF_sound tab_ok noX_local 100 [true] _ _ rfl ?_ ?_
                  · simp
                  exact hnx (by simp [contB, h1, h2, h6, h7]) _ ⟨rfl, i64_eq (wrap_succ (by omega)), trivial⟩
                | false =>
                  refine RunF_sound tab_ok noX_local 100 [false] _ _ rfl ?_ ?_
                  · simp
                  refine Run.retP tab_ok Tryd.func50 rfl trivial (fun M => ?_)
                  rw [hr, hst (by simp [contB, h1, h2, h6, h7])]; rfl
            · skip
              refine RunF_sound tab_ok noX_local 100 [false, false, false, false, false] _ _ rfl ?_ ?_
              · simp [h3, h4, h5]
              refine Run.retP tab_ok Tryd.func50 rfl trivial (fun M => ?_)
              rw [hr, hst (by simp [contB, h1, h2, h3, h4, h5])]; rfl
theorem name_enters : Enters Tryd.prog 50 := enters_mk Tryd.func50 (by decide) rfl

def nameB (s : ByteArray) : Bool := decide (s.size ≠ 0 ∧ s.size ≤ 64 ∧ nameN s = s.size)
theorem isName_ok (s : ByteArray) (w : World) : Gives Tryd.prog 33 [.string s] w (.bool (nameB s)) := by
  refine Gives.of_run Tryd.func33 rfl (by show 1 ≤ 17; decide) ?_
  by_cases h0 : s.size = 0
  · have e := size_toList h0
    refine RunF_sound tab_ok noX_local 100 [false] _ _ rfl ?_ ?_
    · simp [e]
    refine Run.retP tab_ok Tryd.func33 rfl trivial (fun M => ?_)
    simp [conc, nameB, h0]
  have e : ¬ s.toList = [] := fun h => h0 (toList_size h)
  by_cases h1 : s.size ≤ 64
  · refine RunF_sound tab_ok noX_local 100 [true, true] _ _ rfl ?_ ?_
    · simp [e]; omega
    refine Run.callFn (r := .int .i64 (nameN s)) noX_local rfl rfl rfl rfl rfl rfl rfl name_enters rfl (fun w' _ => name_ok s w' h1) ?_
    refine RunF_sound tab_ok noX_local 100 [] _ _ rfl ?_ ?_
    · simp
    refine Run.retP tab_ok Tryd.func33 rfl trivial (fun M => ?_)
    by_cases h2 : nameN s = s.size
    · simp [conc, nameB, h0, h1, h2]
    · have : ¬ (nameN s : Int) = (s.size : Int) := by omega
      simp [conc, nameB, h2, this]
  · refine RunF_sound tab_ok noX_local 100 [true, false] _ _ rfl ?_ ?_
    · simp [e]; omega
    refine Run.retP tab_ok Tryd.func33 rfl trivial (fun M => ?_)
    simp [conc, nameB, h1]
theorem isName_enters : Enters Tryd.prog 33 := enters_mk Tryd.func33 (by decide) rfl

/-- The names of the registers. -/
def regs : List (List UInt8) := [[69, 65, 88], [69, 66, 88], [69, 67, 88], [69, 68, 88], [69, 83, 73], [69, 68, 73], [69, 66, 80], [69, 83, 80], [82, 56], [82, 57], [82, 49, 48], [82, 49, 49], [82, 49, 50], [82, 49, 51], [82, 49, 52], [82, 49, 53]]
def regB (s : ByteArray) : Bool := regs.any fun r => s.toList == r
set_option maxHeartbeats 2000000 in
theorem register_ok (s : ByteArray) (w : World) : Gives Tryd.prog 32 [.string s] w (.bool (regB s)) := by
  refine Gives.of_run Tryd.func32 rfl (by show 1 ≤ 21; decide) ?_
  by_cases h0 : s.toList = [69, 65, 88]
  · have hb : regB s = true := List.any_eq_true.2 ⟨[69, 65, 88], List.mem_of_getElem? (i := 0) rfl, by rw [h0]; decide⟩
    rw [hb]
    refine RunF_sound tab_ok noX_local 400 [true, true] _ _ rfl ?_ ?_
    · simp [h0]
    exact Run.retP tab_ok Tryd.func32 rfl trivial (fun M => rfl)
  by_cases h1 : s.toList = [69, 66, 88]
  · have hb : regB s = true := List.any_eq_true.2 ⟨[69, 66, 88], List.mem_of_getElem? (i := 1) rfl, by rw [h1]; decide⟩
    rw [hb]
    refine RunF_sound tab_ok noX_local 400 [false, true, true] _ _ rfl ?_ ?_
    · simp [h1]
    exact Run.retP tab_ok Tryd.func32 rfl trivial (fun M => rfl)
  by_cases h2 : s.toList = [69, 67, 88]
  · have hb : regB s = true := List.any_eq_true.2 ⟨[69, 67, 88], List.mem_of_getElem? (i := 2) rfl, by rw [h2]; decide⟩
    rw [hb]
    refine RunF_sound tab_ok noX_local 400 [false, false, true, true] _ _ rfl ?_ ?_
    · simp [h2]
    exact Run.retP tab_ok Tryd.func32 rfl trivial (fun M => rfl)
  by_cases h3 : s.toList = [69, 68, 88]
  · have hb : regB s = true := List.any_eq_true.2 ⟨[69, 68, 88], List.mem_of_getElem? (i := 3) rfl, by rw [h3]; decide⟩
    rw [hb]
    refine RunF_sound tab_ok noX_local 400 [false, false, false, true, true] _ _ rfl ?_ ?_
    · simp [h3]
    exact Run.retP tab_ok Tryd.func32 rfl trivial (fun M => rfl)
  by_cases h4 : s.toList = [69, 83, 73]
  · have hb : regB s = true := List.any_eq_true.2 ⟨[69, 83, 73], List.mem_of_getElem? (i := 4) rfl, by rw [h4]; decide⟩
    rw [hb]
    refine RunF_sound tab_ok noX_local 400 [false, false, false, false, true, true] _ _ rfl ?_ ?_
    · simp [h4]
    exact Run.retP tab_ok Tryd.func32 rfl trivial (fun M => rfl)
  by_cases h5 : s.toList = [69, 68, 73]
  · have hb : regB s = true := List.any_eq_true.2 ⟨[69, 68, 73], List.mem_of_getElem? (i := 5) rfl, by rw [h5]; decide⟩
    rw [hb]
    refine RunF_sound tab_ok noX_local 400 [false, false, false, false, false, true, true] _ _ rfl ?_ ?_
    · simp [h5]
    exact Run.retP tab_ok Tryd.func32 rfl trivial (fun M => rfl)
  by_cases h6 : s.toList = [69, 66, 80]
  · have hb : regB s = true := List.any_eq_true.2 ⟨[69, 66, 80], List.mem_of_getElem? (i := 6) rfl, by rw [h6]; decide⟩
    rw [hb]
    refine RunF_sound tab_ok noX_local 400 [false, false, false, false, false, false, true, true] _ _ rfl ?_ ?_
    · simp [h6]
    exact Run.retP tab_ok Tryd.func32 rfl trivial (fun M => rfl)
  by_cases h7 : s.toList = [69, 83, 80]
  · have hb : regB s = true := List.any_eq_true.2 ⟨[69, 83, 80], List.mem_of_getElem? (i := 7) rfl, by rw [h7]; decide⟩
    rw [hb]
    refine RunF_sound tab_ok noX_local 400 [false, false, false, false, false, false, false, true, true] _ _ rfl ?_ ?_
    · simp [h7]
    exact Run.retP tab_ok Tryd.func32 rfl trivial (fun M => rfl)
  by_cases h8 : s.toList = [82, 56]
  · have hb : regB s = true := List.any_eq_true.2 ⟨[82, 56], List.mem_of_getElem? (i := 8) rfl, by rw [h8]; decide⟩
    rw [hb]
    refine RunF_sound tab_ok noX_local 400 [false, false, false, false, false, false, false, false, true, true] _ _ rfl ?_ ?_
    · simp [h8]
    exact Run.retP tab_ok Tryd.func32 rfl trivial (fun M => rfl)
  by_cases h9 : s.toList = [82, 57]
  · have hb : regB s = true := List.any_eq_true.2 ⟨[82, 57], List.mem_of_getElem? (i := 9) rfl, by rw [h9]; decide⟩
    rw [hb]
    refine RunF_sound tab_ok noX_local 400 [false, false, false, false, false, false, false, false, false, true, true] _ _ rfl ?_ ?_
    · simp [h9]
    exact Run.retP tab_ok Tryd.func32 rfl trivial (fun M => rfl)
  by_cases h10 : s.toList = [82, 49, 48]
  · have hb : regB s = true := List.any_eq_true.2 ⟨[82, 49, 48], List.mem_of_getElem? (i := 10) rfl, by rw [h10]; decide⟩
    rw [hb]
    refine RunF_sound tab_ok noX_local 400 [false, false, false, false, false, false, false, false, false, false, true, true] _ _ rfl ?_ ?_
    · simp [h10]
    exact Run.retP tab_ok Tryd.func32 rfl trivial (fun M => rfl)
  by_cases h11 : s.toList = [82, 49, 49]
  · have hb : regB s = true := List.any_eq_true.2 ⟨[82, 49, 49], List.mem_of_getElem? (i := 11) rfl, by rw [h11]; decide⟩
    rw [hb]
    refine RunF_sound tab_ok noX_local 400 [false, false, false, false, false, false, false, false, false, false, false, true, true] _ _ rfl ?_ ?_
    · simp [h11]
    exact Run.retP tab_ok Tryd.func32 rfl trivial (fun M => rfl)
  by_cases h12 : s.toList = [82, 49, 50]
  · have hb : regB s = true := List.any_eq_true.2 ⟨[82, 49, 50], List.mem_of_getElem? (i := 12) rfl, by rw [h12]; decide⟩
    rw [hb]
    refine RunF_sound tab_ok noX_local 400 [false, false, false, false, false, false, false, false, false, false, false, false, true, true] _ _ rfl ?_ ?_
    · simp [h12]
    exact Run.retP tab_ok Tryd.func32 rfl trivial (fun M => rfl)
  by_cases h13 : s.toList = [82, 49, 51]
  · have hb : regB s = true := List.any_eq_true.2 ⟨[82, 49, 51], List.mem_of_getElem? (i := 13) rfl, by rw [h13]; decide⟩
    rw [hb]
    refine RunF_sound tab_ok noX_local 400 [false, false, false, false, false, false, false, false, false, false, false, false, false, true, true] _ _ rfl ?_ ?_
    · simp [h13]
    exact Run.retP tab_ok Tryd.func32 rfl trivial (fun M => rfl)
  by_cases h14 : s.toList = [82, 49, 52]
  · have hb : regB s = true := List.any_eq_true.2 ⟨[82, 49, 52], List.mem_of_getElem? (i := 14) rfl, by rw [h14]; decide⟩
    rw [hb]
    refine RunF_sound tab_ok noX_local 400 [false, false, false, false, false, false, false, false, false, false, false, false, false, false, true, true] _ _ rfl ?_ ?_
    · simp [h14]
    exact Run.retP tab_ok Tryd.func32 rfl trivial (fun M => rfl)
  by_cases h15 : s.toList = [82, 49, 53]
  · have hb : regB s = true := List.any_eq_true.2 ⟨[82, 49, 53], List.mem_of_getElem? (i := 15) rfl, by rw [h15]; decide⟩
    rw [hb]
    refine RunF_sound tab_ok noX_local 400 [false, false, false, false, false, false, false, false, false, false, false, false, false, false, false, true] _ _ rfl ?_ ?_
    · simp [h15]
    exact Run.retP tab_ok Tryd.func32 rfl trivial (fun M => rfl)
  have hb : regB s = false := by
    rw [Bool.eq_false_iff]; intro h
    obtain ⟨r, hr, he⟩ := List.any_eq_true.1 h
    have he := eq_of_beq he; subst he
    simp only [regs, List.mem_cons, List.not_mem_nil, or_false, h0, h1, h2, h3, h4, h5, h6, h7, h8, h9, h10, h11, h12, h13, h14, h15] at hr
  rw [hb]
  refine RunF_sound tab_ok noX_local 400 [false, false, false, false, false, false, false, false, false, false, false, false, false, false, false, false] _ _ rfl ?_ ?_
  · simp [h0, h1, h2, h3, h4, h5, h6, h7, h8, h9, h10, h11, h12, h13, h14, h15]
  exact Run.retP tab_ok Tryd.func32 rfl trivial (fun M => rfl)
theorem register_enters : Enters Tryd.prog 32 := enters_mk Tryd.func32 (by decide) rfl
end Go.Proofs.YtehimiadpgbhmaaDoor

/-
  Names that rise; kinds of instructions. Own work.
-/
namespace Go.Proofs.YtehimiadpgbhmaaDoor
open Go.AM
set_option maxRecDepth 100000

/-- Is a name behind the one ahead of it, and does it pass the test? -/
def stepB (t : ByteArray → Bool) (xs : List ByteArray) (i : Nat) : Bool := (decide (i = 0) || Op.bytesLess (xs.getD (i - 1) ⟨#[]⟩).toList (xs.getD i ⟨#[]⟩).toList) && t (xs.getD i ⟨#[]⟩)
def risesB (t : ByteArray → Bool) (xs : List ByteArray) : Bool := (List.range xs.length).all (stepB t xs)

set_option maxHeartbeats 1000000 in
theorem rises_ok (g : FuncId) (t : ByteArray → Bool) (he : Enters Tryd.prog g) (ht : ∀ s w, Gives Tryd.prog g [.string s] w (.bool (t s))) (p : Option Addr) (c : Nat) (xs : List ByteArray) (w : World) (hS : SeesS w p xs) (hl : xs.length ≤ maxLen) :
    Gives Tryd.prog 31 [.slice p xs.length c, .func (.func g) #[] #[]] w (.bool (risesB t xs)) := by
  have hml : maxLen = 9223372036854775807 := rfl
  rw [hml] at hl
  refine Gives.of_run Tryd.func31 rfl (by show 2 ≤ 32; decide) ?_
  refine RunF_sound tab_ok noX_local 100 [] _ _ rfl ?_ ?_
  · simp
  suffices H : ∀ (d i : Nat), i + d = xs.length → (∀ j, j < i → stepB t xs j = true) → ∀ σ, inT σ.t [(0, .v (.slice p xs.length c)), (1, .v (.func (.func g) #[] #[])), (7, .v (.slice p xs.length c)), (8, .v (.int .i64 (xs.length : Int))), (9, .v (.int .i64 (i : Int)))] → Run _ _ σ by
    exact H xs.length 0 (by omega) (fun j hj => by omega) _ ⟨rfl, rfl, rfl, rfl, rfl, trivial⟩
  intro d
  induction d with
  | zero =>
    intro i hi hall σ hσ
    refine Run.to ?_ hσ (h' := []) trivial (n' := 0)
    refine RunF_sound tab_ok noX_local 100 [false] _ _ rfl ?_ ?_
    · simp; omega
    refine Run.retP tab_ok Tryd.func31 rfl trivial (fun M => ?_)
    have : risesB t xs = true := List.all_eq_true.2 fun j hj => hall j (by have := List.mem_range.1 hj; omega)
    rw [this]; rfl
  | succ d ih =>
    intro i hi hall σ hσ
    refine Run.to ?_ hσ (h' := []) trivial (n' := 0)
    have hix : i < xs.length := by omega
    obtain ⟨hp, hc⟩ := hS i hix
    have hfalse : stepB t xs i = false → risesB t xs = false := fun h => List.all_eq_false.2 ⟨i, List.mem_range.2 hix, by rw [h]; exact Bool.false_ne_true⟩
    have hgi : xs.getD i ⟨#[]⟩ = xs[i] := by rw [List.getD_eq_getElem?_getD, List.getElem?_eq_getElem hix]; rfl
    have hnx := fun (h : stepB t xs i = true) => ih (i + 1) (by omega) (fun j hj => by
      by_cases e : j = i
      · rw [e]; exact h
      · exact hall j (by omega))
    by_cases h0 : i = 0
    · have hst : stepB t xs i = t xs[i] := by rw [stepB, hgi, decide_eq_true h0, Bool.true_or, Bool.true_and]
      refine RunF_sound tab_ok noX_local 100 [true, false] _ _ rfl ?_ ?_
      · simp [hc]
        exact ⟨hix, ⟨hp, hix⟩, h0⟩
      refine Run.asFn 26 rfl ?_
      refine Run.callFn (r := .bool (t xs[i])) noX_local rfl rfl rfl rfl rfl rfl rfl he rfl (fun w' _ => ?_) ?_
      · simp only [fnC_w0, Int.toNat_natCast, Nat.mul_one, hc]
        exact ht xs[i] w'
      cases htt : t xs[i] with
      | true =>
        refine RunF_sound tab_ok noX_local 100 [false] _ _ rfl ?_ ?_
        · simp
        exact hnx (by rw [hst, htt]) _ ⟨rfl, rfl, rfl, rfl, i64_eq (wrap_succ (by omega)), trivial⟩
      | false =>
        refine RunF_sound tab_ok noX_local 100 [true] _ _ rfl ?_ ?_
        · simp
        refine Run.retP tab_ok Tryd.func31 rfl trivial (fun M => ?_)
        rw [hfalse (by rw [hst, htt])]; rfl
    · have hj : i - 1 < xs.length := by omega
      obtain ⟨_, hc'⟩ := hS (i - 1) hj
      have hgj : xs.getD (i - 1) ⟨#[]⟩ = xs[i - 1] := by rw [List.getD_eq_getElem?_getD, List.getElem?_eq_getElem hj]; rfl
      have hst : stepB t xs i = (Op.bytesLess (xs[i - 1]).toList (xs[i]).toList && t xs[i]) := by
        rw [stepB, hgi, hgj, decide_eq_false h0, Bool.false_or]
      have hwm : IntKind.i64.wrap ((i : Int) - 1) = ((i - 1 : Nat) : Int) := by rw [wrap_i64] <;> omega
      cases hb : Op.bytesLess (xs[i - 1]).toList (xs[i]).toList with
      | false =>
        refine RunF_sound tab_ok noX_local 100 [true, true, true, true] _ _ rfl ?_ ?_
        · simp [hc, hc', hwm, hb]
          exact ⟨hix, ⟨hp, hix⟩, by omega, hp, hj⟩
        refine Run.retP tab_ok Tryd.func31 rfl trivial (fun M => ?_)
        rw [hfalse (by rw [hst, hb]; rfl)]; rfl
      | true =>
        refine RunF_sound tab_ok noX_local 100 [true, true, false] _ _ rfl ?_ ?_
        · simp [hc, hc', hwm, hb]
          exact ⟨hix, ⟨hp, hix⟩, by omega, hp, hj⟩
        refine Run.asFn 26 rfl ?_
        refine Run.callFn (r := .bool (t xs[i])) noX_local rfl rfl rfl rfl rfl rfl rfl he rfl (fun w' _ => ?_) ?_
        · simp only [fnC_w0, Int.toNat_natCast, Nat.mul_one, hc]
          exact ht xs[i] w'
        cases htt : t xs[i] with
        | true =>
          refine RunF_sound tab_ok noX_local 100 [false] _ _ rfl ?_ ?_
          · simp
          exact hnx (by rw [hst, hb, htt]; rfl) _ ⟨rfl, rfl, rfl, rfl, i64_eq (wrap_succ (by omega)), trivial⟩
        | false =>
          refine RunF_sound tab_ok noX_local 100 [true] _ _ rfl ?_ ?_
          · simp
          refine Run.retP tab_ok Tryd.func31 rfl trivial (fun M => ?_)
          rw [hfalse (by rw [hst, hb, htt]; rfl)]; rfl
theorem rises_enters : Enters Tryd.prog 31 := enters_mk Tryd.func31 (by decide) rfl

/-- What a kind of instruction has. -/
structure Kd where
  dst : Bool
  src : Bool
  loc : Bool
  imm : Bool
  evs : Int
def kdV (k : Kd) : List Value := [.bool k.dst, .bool k.src, .bool k.loc, .bool k.imm, .int .i64 k.evs]
def encKd (k : Kd) : Value := .agg (kdV k).toArray
@[simp] theorem kdV_len (k : Kd) : (kdV k).length = 5 := rfl
@[simp] theorem kdV_0 (k : Kd) : (kdV k)[0]? = some (.bool k.dst) := rfl
@[simp] theorem kdV_1 (k : Kd) : (kdV k)[1]? = some (.bool k.src) := rfl
@[simp] theorem kdV_2 (k : Kd) : (kdV k)[2]? = some (.bool k.loc) := rfl
@[simp] theorem kdV_3 (k : Kd) : (kdV k)[3]? = some (.bool k.imm) := rfl
@[simp] theorem kdV_4 (k : Kd) : (kdV k)[4]? = some (.int .i64 k.evs) := rfl
@[simp] theorem boolAt_k0 (k : Kd) : boolAt (kdV k) 0 = k.dst := rfl
@[simp] theorem boolAt_k1 (k : Kd) : boolAt (kdV k) 1 = k.src := rfl
@[simp] theorem boolAt_k2 (k : Kd) : boolAt (kdV k) 2 = k.loc := rfl
@[simp] theorem boolAt_k3 (k : Kd) : boolAt (kdV k) 3 = k.imm := rfl
@[simp] theorem intAt_k4 (k : Kd) : intAt (kdV k) 4 = k.evs := rfl
theorem kdV_one (k : Kd) : (∀ c ∈ kdV k, c.oneCell' = true) ↔ True := iff_true_intro fun c hc => by
  simp only [kdV, List.mem_cons, List.not_mem_nil, or_false] at hc
  rcases hc with rfl | rfl | rfl | rfl | rfl <;> rfl
@[simp] theorem zkd : z68 = kdV ⟨false, false, false, false, 0⟩ := rfl
@[simp] theorem splice_kd (e d : Kd) : splice (kdV e) 0 (kdV d) = kdV d := rfl
end Go.Proofs.YtehimiadpgbhmaaDoor

/-
  Kinds of instructions walked; whether an instruction fits. Own work; the walk of the kinds printed by a program of our own (tools/gen_t4.py).
-/
namespace Go.Proofs.YtehimiadpgbhmaaDoor
open Go.AM
set_option maxRecDepth 100000

theorem szBool : tab.size 4 = some 1 := rfl
theorem szInt : tab.size 3 = some 1 := rfl
def kindK (k : Int) : Kd × Bool :=
  if k = 1 then (⟨true, false, false, true, 0⟩, true) else if k = 2 then (⟨true, true, false, false, 0⟩, true) else if k = 3 then (⟨true, false, true, false, 1⟩, true) else
  if k = 4 then (⟨false, false, true, true, 1⟩, true) else if k = 5 then (⟨false, true, true, false, 1⟩, true) else if k = 6 then (⟨false, false, false, false, 1⟩, true) else
  if k = 7 ∨ k = 9 then (⟨true, false, true, false, 2⟩, true) else if k = 8 then (⟨false, true, true, false, 2⟩, true) else (⟨false, false, false, false, 0⟩, false)
def kindV (k : Int) : Value := .tuple #[encKd (kindK k).1, .bool (kindK k).2]

set_option maxHeartbeats 1000000 in
theorem kind_ok (k : Int) (w : World) : Gives Tryd.prog 36 [.int .i64 k] w (kindV k) := by
  refine Gives.of_run Tryd.func36 rfl (by show 1 ≤ 31; decide) ?_
  by_cases h1 : k = 1
  · subst h1
    have hv : kindV 1 = .tuple #[encKd ⟨true, false, false, true, 0⟩, .bool true] := rfl
    rw [hv]
    refine RunF_sound tab_ok noX_local 200 [true] _ _ rfl ?_ ?_
    · simp [Value.cells, fillL, splice, szBool, kdV, segsVals, Value.oneCell']
      try trivial
    refine Run.to (t' := [(2, .ptr 0 0), (3, .tt true)]) (h' := [(0, .cells 68 [.vals 5 (kdV ⟨true, false, false, true, 0⟩)])]) (n' := 1) ?_ ⟨rfl, rfl, trivial⟩ ⟨rfl, trivial⟩
    refine Run.retL tab_ok Tryd.func36 rfl ?_ (fun M => ?_)
    · simp
    rfl
  by_cases h2 : k = 2
  · subst h2
    have hv : kindV 2 = .tuple #[encKd ⟨true, true, false, false, 0⟩, .bool true] := rfl
    rw [hv]
    refine RunF_sound tab_ok noX_local 200 [false, true] _ _ rfl ?_ ?_
    · simp [Value.cells, fillL, splice, szBool, kdV, segsVals, Value.oneCell']
      try trivial
    refine Run.to (t' := [(2, .ptr 0 0), (3, .tt true)]) (h' := [(0, .cells 68 [.vals 5 (kdV ⟨true, true, false, false, 0⟩)])]) (n' := 1) ?_ ⟨rfl, rfl, trivial⟩ ⟨rfl, trivial⟩
    refine Run.retL tab_ok Tryd.func36 rfl ?_ (fun M => ?_)
    · simp
    rfl
  by_cases h3 : k = 3
  · subst h3
    have hv : kindV 3 = .tuple #[encKd ⟨true, false, true, false, 1⟩, .bool true] := rfl
    rw [hv]
    refine RunF_sound tab_ok noX_local 200 [false, false, true] _ _ rfl ?_ ?_
    · simp [Value.cells, fillL, splice, szBool, kdV, segsVals, Value.oneCell']
      try trivial
    refine Run.to (t' := [(2, .ptr 0 0), (3, .tt true)]) (h' := [(0, .cells 68 [.vals 5 (kdV ⟨true, false, true, false, 1⟩)])]) (n' := 1) ?_ ⟨rfl, rfl, trivial⟩ ⟨rfl, trivial⟩
    refine Run.retL tab_ok Tryd.func36 rfl ?_ (fun M => ?_)
    · simp
    rfl
  by_cases h4 : k = 4
  · subst h4
    have hv : kindV 4 = .tuple #[encKd ⟨false, false, true, true, 1⟩, .bool true] := rfl
    rw [hv]
    refine RunF_sound tab_ok noX_local 200 [false, false, false, true] _ _ rfl ?_ ?_
    · simp [Value.cells, fillL, splice, szBool, kdV, segsVals, Value.oneCell']
      try trivial
    refine Run.to (t' := [(2, .ptr 0 0), (3, .tt true)]) (h' := [(0, .cells 68 [.vals 5 (kdV ⟨false, false, true, true, 1⟩)])]) (n' := 1) ?_ ⟨rfl, rfl, trivial⟩ ⟨rfl, trivial⟩
    refine Run.retL tab_ok Tryd.func36 rfl ?_ (fun M => ?_)
    · simp
    rfl
  by_cases h5 : k = 5
  · subst h5
    have hv : kindV 5 = .tuple #[encKd ⟨false, true, true, false, 1⟩, .bool true] := rfl
    rw [hv]
    refine RunF_sound tab_ok noX_local 200 [false, false, false, false, true] _ _ rfl ?_ ?_
    · simp [Value.cells, fillL, splice, szBool, kdV, segsVals, Value.oneCell']
      try trivial
    refine Run.to (t' := [(2, .ptr 0 0), (3, .tt true)]) (h' := [(0, .cells 68 [.vals 5 (kdV ⟨false, true, true, false, 1⟩)])]) (n' := 1) ?_ ⟨rfl, rfl, trivial⟩ ⟨rfl, trivial⟩
    refine Run.retL tab_ok Tryd.func36 rfl ?_ (fun M => ?_)
    · simp
    rfl
  by_cases h6 : k = 6
  · subst h6
    have hv : kindV 6 = .tuple #[encKd ⟨false, false, false, false, 1⟩, .bool true] := rfl
    rw [hv]
    refine RunF_sound tab_ok noX_local 200 [false, false, false, false, false, true] _ _ rfl ?_ ?_
    · simp [Value.cells, fillL, splice, szBool, kdV, segsVals, Value.oneCell']
      try trivial
    refine Run.to (t' := [(2, .ptr 0 0), (3, .tt true)]) (h' := [(0, .cells 68 [.vals 5 (kdV ⟨false, false, false, false, 1⟩)])]) (n' := 1) ?_ ⟨rfl, rfl, trivial⟩ ⟨rfl, trivial⟩
    refine Run.retL tab_ok Tryd.func36 rfl ?_ (fun M => ?_)
    · simp
    rfl
  by_cases h7 : k = 7
  · subst h7
    have hv : kindV 7 = .tuple #[encKd ⟨true, false, true, false, 2⟩, .bool true] := rfl
    rw [hv]
    refine RunF_sound tab_ok noX_local 200 [false, false, false, false, false, false, true, true] _ _ rfl ?_ ?_
    · simp [Value.cells, fillL, splice, szBool, kdV, segsVals, Value.oneCell']
      try trivial
    refine Run.to (t' := [(2, .ptr 0 0), (3, .tt true)]) (h' := [(0, .cells 68 [.vals 5 (kdV ⟨true, false, true, false, 2⟩)])]) (n' := 1) ?_ ⟨rfl, rfl, trivial⟩ ⟨rfl, trivial⟩
    refine Run.retL tab_ok Tryd.func36 rfl ?_ (fun M => ?_)
    · simp
    rfl
  by_cases h9 : k = 9
  · subst h9
    have hv : kindV 9 = .tuple #[encKd ⟨true, false, true, false, 2⟩, .bool true] := rfl
    rw [hv]
    refine RunF_sound tab_ok noX_local 200 [false, false, false, false, false, false, false, true] _ _ rfl ?_ ?_
    · simp [Value.cells, fillL, splice, szBool, kdV, segsVals, Value.oneCell']
      try trivial
    refine Run.to (t' := [(2, .ptr 0 0), (3, .tt true)]) (h' := [(0, .cells 68 [.vals 5 (kdV ⟨true, false, true, false, 2⟩)])]) (n' := 1) ?_ ⟨rfl, rfl, trivial⟩ ⟨rfl, trivial⟩
    refine Run.retL tab_ok Tryd.func36 rfl ?_ (fun M => ?_)
    · simp
    rfl
  by_cases h8 : k = 8
  · subst h8
    have hv : kindV 8 = .tuple #[encKd ⟨false, true, true, false, 2⟩, .bool true] := rfl
    rw [hv]
    refine RunF_sound tab_ok noX_local 200 [false, false, false, false, false, false, false, false, true] _ _ rfl ?_ ?_
    · simp [Value.cells, fillL, splice, szBool, kdV, segsVals, Value.oneCell']
      try trivial
    refine Run.to (t' := [(2, .ptr 0 0), (3, .tt true)]) (h' := [(0, .cells 68 [.vals 5 (kdV ⟨false, true, true, false, 2⟩)])]) (n' := 1) ?_ ⟨rfl, rfl, trivial⟩ ⟨rfl, trivial⟩
    refine Run.retL tab_ok Tryd.func36 rfl ?_ (fun M => ?_)
    · simp
    rfl
  have hv : kindV k = .tuple #[encKd ⟨false, false, false, false, 0⟩, .bool false] := by simp [kindV, kindK, h1, h2, h3, h4, h5, h6, h7, h9, h8]
  rw [hv]
  refine RunF_sound tab_ok noX_local 200 [false, false, false, false, false, false, false, false, false] _ _ rfl ?_ ?_
  · simp [Value.cells, fillL, szBool, kdV, segsVals, Value.oneCell', h1, h2, h3, h4, h5, h6, h7, h9, h8]
    try trivial
  refine Run.to (t' := [(2, .ptr 0 0), (3, .tt false)]) (h' := [(0, .cells 68 [.vals 5 (kdV ⟨false, false, false, false, 0⟩)])]) (n' := 1) ?_ ⟨rfl, rfl, trivial⟩ ⟨rfl, trivial⟩
  refine Run.retL tab_ok Tryd.func36 rfl ?_ (fun M => ?_)
  · simp
  rfl
theorem kind_enters : Enters Tryd.prog 36 := enters_mk Tryd.func36 (by decide) rfl

/-- A number within its bounds, if it is used; nought if not. -/
def inB (u : Bool) (v n : Int) : Bool := if u = true then decide (v ≥ 0) && decide (v < n) else decide (v = 0)
theorem fits1_ok (u : Bool) (v n : Int) (w : World) : Gives Tryd.prog 51 [.bool u, .int .i64 v, .int .i64 n] w (.bool (inB u v n)) := by
  refine Gives.of_run Tryd.func51 rfl (by show 3 ≤ 17; decide) ?_
  cases u with
  | true =>
    by_cases h : v ≥ 0
    · refine RunF_sound tab_ok noX_local 100 [true, true] _ _ rfl ?_ ?_
      · simp [h]
      refine Run.retP tab_ok Tryd.func51 rfl trivial (fun M => ?_)
      simp [conc, inB, h]
    · refine RunF_sound tab_ok noX_local 100 [true, false] _ _ rfl ?_ ?_
      · simp [h]
      refine Run.retP tab_ok Tryd.func51 rfl trivial (fun M => ?_)
      simp [conc, inB, h]
  | false =>
    refine RunF_sound tab_ok noX_local 100 [false] _ _ rfl ?_ ?_
    · simp
    refine Run.retP tab_ok Tryd.func51 rfl trivial (fun M => ?_)
    simp [conc, inB]
    rfl
theorem fits1_enters : Enters Tryd.prog 51 := enters_mk Tryd.func51 (by decide) rfl

end Go.Proofs.YtehimiadpgbhmaaDoor

/-
  Whether an instruction fits. Own work.
-/
namespace Go.Proofs.YtehimiadpgbhmaaDoor
open Go.AM
set_option maxRecDepth 100000

def fitsB (o : Opn) (regs : List ByteArray) (nl : Nat) : Bool :=
  (kindK o.kind).2 && (inB (kindK o.kind).1.src o.src regs.length && (inB (kindK o.kind).1.loc o.loc nl && (((kindK o.kind).1.imm || decide (o.imm = 0)) &&
    (if o.kind = 8 then decide (o.reg ≥ 0) && (decide (o.reg < regs.length) && ((regs.getD o.reg.toNat ⟨#[]⟩).toList == [69, 65, 88])) else inB (kindK o.kind).1.dst o.reg regs.length))))

set_option maxHeartbeats 2000000 in
theorem fits_ok (o : Opn) (pr : Option Addr) (cr : Nat) (regs : List ByteArray) (pl : Option Addr) (nl cl : Nat) (w : World) (hS : SeesS w pr regs) :
    Gives Tryd.prog 34 [encOp o, .slice pr regs.length cr, .slice pl nl cl] w (.bool (fitsB o regs nl)) := by
  refine Gives.of_run Tryd.func34 rfl (by show 3 ≤ 79; decide) ?_
  have hone := opV_one o
  refine RunF_sound tab_ok noX_local 100 [] _ _ rfl ?_ ?_
  · simp
  refine Run.callFn (r := kindV o.kind) noX_local rfl rfl rfl rfl rfl rfl rfl kind_enters rfl (fun w' _ => kind_ok o.kind w') ?_
  have hfit : fitsB o regs nl = ((kindK o.kind).2 && (inB (kindK o.kind).1.src o.src regs.length && (inB (kindK o.kind).1.loc o.loc nl && (((kindK o.kind).1.imm || decide (o.imm = 0)) &&
    (if o.kind = 8 then decide (o.reg ≥ 0) && (decide (o.reg < regs.length) && ((regs.getD o.reg.toNat ⟨#[]⟩).toList == [69, 65, 88])) else inB (kindK o.kind).1.dst o.reg regs.length))))) := rfl
  generalize hk : fitsB o regs nl = FB at *
  unfold kindV
  generalize kindK o.kind = K at *
  obtain ⟨K, kb⟩ := K
  have hkd := kdV_one K
  cases kb with
  | false =>
    refine RunF_sound tab_ok noX_local 200 [true, true, true, true] _ _ rfl ?_ ?_
    · simp [hkd, segsVals]
    refine Run.retP tab_ok Tryd.func34 rfl trivial (fun M => ?_)
    rw [hfit]; rfl
  | true =>
  simp only [Bool.true_and] at hfit
  refine RunF_sound tab_ok noX_local 200 [false] _ _ rfl ?_ ?_
  · simp [hkd, segsVals]
  refine Run.callFn (r := .bool (inB K.src o.src regs.length)) noX_local rfl rfl rfl rfl rfl rfl rfl fits1_enters rfl (fun w' _ => fits1_ok K.src o.src regs.length w') ?_
  cases h1 : inB K.src o.src regs.length with
  | false =>
    rw [h1, Bool.false_and] at hfit
    refine RunF_sound tab_ok noX_local 200 [true, true, true, true] _ _ rfl ?_ ?_
    · simp
    refine Run.retP tab_ok Tryd.func34 rfl trivial (fun M => ?_)
    rw [hfit]; rfl
  | true =>
  rw [h1, Bool.true_and] at hfit
  refine RunF_sound tab_ok noX_local 200 [false] _ _ rfl ?_ ?_
  · simp
  refine Run.callFn (r := .bool (inB K.loc o.loc nl)) noX_local rfl rfl rfl rfl rfl rfl rfl fits1_enters rfl (fun w' _ => fits1_ok K.loc o.loc nl w') ?_
  cases h2 : inB K.loc o.loc nl with
  | false =>
    rw [h2, Bool.false_and] at hfit
    refine RunF_sound tab_ok noX_local 200 [true, true, true, true] _ _ rfl ?_ ?_
    · simp
    refine Run.retP tab_ok Tryd.func34 rfl trivial (fun M => ?_)
    rw [hfit]; rfl
  | true =>
  rw [h2, Bool.true_and] at hfit
  suffices H : ∀ σ, inT σ.t [(1, .v (.slice pr regs.length cr)), (2, .v (.slice pl nl cl)), (3, .ptr 0 0), (7, .ptr 1 0), (9, .fn 51 []), (52, .v (.bool (o.kind == 8)))] → inT σ.h [(0, .cells 60 [.vals 5 (opV o)]), (1, .cells 68 [.vals 5 (kdV K)])] →
      FB = (if o.kind = 8 then decide (o.reg ≥ 0) && (decide (o.reg < regs.length) && ((regs.getD o.reg.toNat ⟨#[]⟩).toList == [69, 65, 88])) else inB K.dst o.reg regs.length) → Run _ _ σ by
    cases h3 : K.imm with
    | true =>
      rw [h3, Bool.true_or, Bool.true_and] at hfit
      refine RunF_sound tab_ok noX_local 200 [false, false] _ _ rfl ?_ ?_
      · simp [h3]
      exact H _ ⟨rfl, rfl, rfl, rfl, rfl, rfl, trivial⟩ ⟨rfl, rfl, trivial⟩ hfit
    | false =>
      by_cases h4 : o.imm = 0
      · rw [h3, decide_eq_true h4, Bool.or_true, Bool.true_and] at hfit
        refine RunF_sound tab_ok noX_local 200 [false, true, false] _ _ rfl ?_ ?_
        · simp [h3, h4]
        exact H _ ⟨rfl, rfl, rfl, rfl, rfl, rfl, trivial⟩ ⟨rfl, rfl, trivial⟩ hfit
      · rw [h3, decide_eq_false h4, Bool.or_false, Bool.false_and] at hfit
        refine RunF_sound tab_ok noX_local 200 [false, true, true] _ _ rfl ?_ ?_
        · simp [h3, h4]
        refine Run.retP tab_ok Tryd.func34 rfl trivial (fun M => ?_)
        rw [hfit]; rfl
  clear hfit
  intro σ ht hh hfit
  refine Run.to ?_ ht hh (n' := 2)
  by_cases h5 : o.kind = 8
  · rw [if_pos h5] at hfit
    by_cases h6 : o.reg ≥ 0
    · by_cases h7 : o.reg < regs.length
      · have hi : o.reg.toNat < regs.length := by omega
        obtain ⟨hp, hc⟩ := hS o.reg.toNat hi
        rw [List.getD_eq_getElem?_getD, List.getElem?_eq_getElem hi, Option.getD_some, decide_eq_true h6, decide_eq_true h7, Bool.true_and, Bool.true_and] at hfit
        refine RunF_sound tab_ok noX_local 200 [true, true, true] _ _ rfl ?_ ?_
        · simp [h5, h6, h7]
          exact ⟨hp, by rw [hc]⟩
        refine Run.retP tab_ok Tryd.func34 rfl trivial (fun M => ?_)
        rw [hfit]
        simp [conc, hc]
      · rw [decide_eq_false h7, Bool.false_and, Bool.and_false] at hfit
        refine RunF_sound tab_ok noX_local 200 [true, true, false] _ _ rfl ?_ ?_
        · simp [h5, h6, h7]
        refine Run.retP tab_ok Tryd.func34 rfl trivial (fun M => ?_)
        rw [hfit]; rfl
    · rw [decide_eq_false h6, Bool.false_and] at hfit
      refine RunF_sound tab_ok noX_local 200 [true, false] _ _ rfl ?_ ?_
      · simp [h5, h6]
      refine Run.retP tab_ok Tryd.func34 rfl trivial (fun M => ?_)
      rw [hfit]; rfl
  · rw [if_neg h5] at hfit
    refine RunF_sound tab_ok noX_local 200 [false] _ _ rfl ?_ ?_
    · simp [h5]
    refine Run.callFn (r := .bool (inB K.dst o.reg regs.length)) noX_local rfl rfl rfl rfl rfl rfl rfl fits1_enters rfl (fun w' _ => fits1_ok K.dst o.reg regs.length w') ?_
    refine RunF_sound tab_ok noX_local 200 [] _ _ rfl ?_ ?_
    · simp
    refine Run.retP tab_ok Tryd.func34 rfl trivial (fun M => ?_)
    rw [hfit]; rfl
theorem fits_enters : Enters Tryd.prog 34 := enters_mk Tryd.func34 (by decide) rfl
end Go.Proofs.YtehimiadpgbhmaaDoor

/-
  How many events and how many tries a program has, walked. Own work.
-/
namespace Go.Proofs.YtehimiadpgbhmaaDoor
open Go.AM
set_option maxRecDepth 100000

theorem sumN_app (g : Opn → Nat) (o : Opn) : ∀ l : List Opn, sumN g (l ++ [o]) = sumN g l + g o
  | [] => by simp [sumN]
  | a :: l => by simp only [List.cons_append, sumN, sumN_app g o l]; omega
theorem sumN_take (g : Opn → Nat) (l : List Opn) {j : Nat} (h : j < l.length) : sumN g (l.take (j + 1)) = sumN g (l.take j) + g l[j] := by
  rw [List.take_succ_eq_append_getElem h, sumN_app]
theorem allN_app (g : Opn → Nat) (o : List Opn) : ∀ l : List (List Opn), allN g (l ++ [o]) = allN g l + sumN g o
  | [] => by simp [allN]
  | a :: l => by simp only [List.cons_append, allN, allN_app g o l]; omega
theorem allN_take (g : Opn → Nat) (l : List (List Opn)) {j : Nat} (h : j < l.length) : allN g (l.take (j + 1)) = allN g (l.take j) + sumN g l[j] := by
  rw [List.take_succ_eq_append_getElem h, allN_app]
theorem sumN_le {g : Opn → Nat} (hg : ∀ o, g o ≤ 2) : ∀ l : List Opn, sumN g l ≤ 2 * l.length
  | [] => by simp [sumN]
  | a :: l => by have := sumN_le hg l; have := hg a; simp only [sumN, List.length_cons]; omega
theorem allN_le {g : Opn → Nat} (hg : ∀ o, g o ≤ 2) {m : Nat} : ∀ l : List (List Opn), (∀ x ∈ l, x.length ≤ m) → allN g l ≤ 2 * m * l.length
  | [], _ => by simp [allN]
  | a :: l, h => by
    have h1 := allN_le hg l (fun x hx => h x (List.mem_cons_of_mem _ hx))
    have h2 := sumN_le hg a
    have h3 := h a List.mem_cons_self
    simp only [allN, List.length_cons, Nat.mul_add, Nat.mul_one]; omega
theorem evN_le (o : Opn) : evN o ≤ 2 := by unfold evN; split; · omega
                                           split <;> omega
theorem tryN_le (o : Opn) : tryN o ≤ 2 := by unfold tryN; split <;> omega
theorem kind_evs (o : Opn) : (kindK o.kind).1.evs = (evN o : Int) := by
  unfold kindK evN
  by_cases h1 : o.kind = 1
  · simp [h1]
  by_cases h2 : o.kind = 2
  · simp [h2]
  by_cases h3 : o.kind = 3
  · simp [h3]
  by_cases h4 : o.kind = 4
  · simp [h4]
  by_cases h5 : o.kind = 5
  · simp [h5]
  by_cases h6 : o.kind = 6
  · simp [h6]
  by_cases h7 : o.kind = 7
  · simp [h7]
  by_cases h9 : o.kind = 9
  · simp [h9]
  by_cases h8 : o.kind = 8
  · simp [h8]
  simp [*]

/-- How many events a program has, if nothing fails. -/
def evsP (p : Pn) : Nat := p.locs.length + allN evN p.th

set_option maxHeartbeats 2000000 in
theorem events_ok (p : Pn) (w : World) (hP : SeesP w p) (h4 : p.th.length ≤ 4) (h16 : p.locs.length ≤ 16) : Gives Tryd.prog 16 [encP p] w (.int .i64 (evsP p)) := by
  refine Gives.of_run Tryd.func16 rfl (by show 1 ≤ 39; decide) ?_
  have hone := pV_one p
  have hall : ∀ i, allN evN (p.th.take i) ≤ 70368744177664 := fun i => by
    have h1 := allN_le evN_le (m := 8796093022208) (p.th.take i) (fun x hx => hP.lt2 x (List.mem_of_mem_take hx))
    have h2 : (p.th.take i).length ≤ 4 := by rw [List.length_take]; omega
    have h3 := Nat.mul_le_mul_left (2 * 8796093022208) h2
    omega
  refine RunF_sound tab_ok noX_local 100 [] _ _ rfl ?_ ?_
  · simp
  suffices H : ∀ (d i : Nat), i + d = p.th.length → ∀ σ, inT σ.t [(3, .v (.int .i64 ((p.locs.length + allN evN (p.th.take i) : Nat) : Int))), (14, .v (.slice p.pt p.th.length p.ct)), (15, .v (.int .i64 (p.th.length : Int))), (16, .v (.int .i64 (i : Int)))] → Run _ _ σ by
    exact H p.th.length 0 (by omega) _ ⟨rfl, rfl, rfl, rfl, trivial⟩
  intro d
  induction d with
  | zero =>
    intro i hi σ ht
    refine Run.to ?_ ht (h' := []) trivial (n' := 0)
    refine RunF_sound tab_ok noX_local 100 [false] _ _ rfl ?_ ?_
    · simp; omega
    refine Run.retP tab_ok Tryd.func16 rfl trivial (fun M => ?_)
    rw [List.take_of_length_le (by omega)]; rfl
  | succ d ih =>
    intro i hi σ ht
    refine Run.to ?_ ht (h' := []) trivial (n' := 0)
    have hix : i < p.th.length := by omega
    obtain ⟨hpt, q, c, hc, hq⟩ := hP.th i hix
    have hll := hP.lt2 p.th[i] (List.getElem_mem hix)
    have hal := hall (i + 1)
    have htk := allN_take evN p.th hix
    have hnx := ih (i + 1) (by omega)
    rw [htk] at hnx hal
    generalize p.th[i] = l at *
    refine RunF_sound tab_ok noX_local 100 [true] _ _ rfl ?_ ?_
    · simp
      exact ⟨hix, ⟨hpt, hix⟩, by rw [hc]; rfl⟩
    refine Run.toC (t' := [(3, .v (.int .i64 ((p.locs.length + allN evN (p.th.take i) : Nat) : Int))), (14, .v (.slice p.pt p.th.length p.ct)), (15, .v (.int .i64 (p.th.length : Int))), (16, .v (.int .i64 (i : Int))), (20, .v (.slice q l.length c)), (21, .v (.int .i64 (l.length : Int))), (22, .v (.int .i64 (0 : Int)))]) (h' := []) (n' := 0) ?_ ⟨inTC_same rfl, inTC_same rfl, inTC_same rfl, inTC_same rfl, ⟨_, rfl, fun M => ?_⟩, ⟨_, rfl, fun M => ?_⟩, inTC_same rfl, trivial⟩ trivial
    rotate_left
    · simp only [conc, fnC_w0, Int.toNat_natCast, Nat.mul_one, hc]; rfl
    · simp only [conc, fnC_w0, Int.toNat_natCast, Nat.mul_one, hc]; rfl
    suffices H2 : ∀ (m j : Nat), j + m = l.length → ∀ σ, inT σ.t [(3, .v (.int .i64 ((p.locs.length + (allN evN (p.th.take i) + sumN evN (l.take j)) : Nat) : Int))), (14, .v (.slice p.pt p.th.length p.ct)), (15, .v (.int .i64 (p.th.length : Int))), (16, .v (.int .i64 (i : Int))), (20, .v (.slice q l.length c)), (21, .v (.int .i64 (l.length : Int))), (22, .v (.int .i64 (j : Int)))] → Run _ _ σ by
      exact H2 l.length 0 (by omega) _ ⟨rfl, rfl, rfl, rfl, rfl, rfl, rfl, trivial⟩
    clear ih
    intro m
    induction m with
    | zero =>
      intro j hj σ ht
      refine Run.to ?_ ht (h' := []) trivial (n' := 0)
      refine RunF_sound tab_ok noX_local 100 [false] _ _ rfl ?_ ?_
      · simp; omega
      refine hnx _ ⟨?_, rfl, rfl, i64_eq (wrap_succ (by omega)), trivial⟩
      rw [List.take_of_length_le (show l.length ≤ j by omega)]; rfl
    | succ m ihm =>
      intro j hj σ ht
      refine Run.to ?_ ht (h' := []) trivial (n' := 0)
      have hjl : j < l.length := by omega
      have hsl : sumN evN (l.take (j + 1)) ≤ sumN evN l := by
        have h1 : ∀ (a b : List Opn), sumN evN (a ++ b) = sumN evN a + sumN evN b := fun a b => by
          induction a with
          | nil => simp [sumN]
          | cons x a ih => simp only [List.cons_append, sumN, ih]; omega
        have h2 := h1 (l.take (j + 1)) (l.drop (j + 1))
        rw [List.take_append_drop] at h2
        omega
      have hst := sumN_take evN l hjl
      have hnxm := ihm (j + 1) (by omega)
      rw [hst] at hnxm hsl
      have hke := kind_evs l[j]
      have hqp := (hq j hjl).1
      have hqe := hq.ext j hjl
      have hqs := hq.some j hjl
      have ho1 := opV_one l[j]
      generalize l[j] = o at *
      refine RunF_sound tab_ok noX_local 100 [true] _ _ rfl ?_ ?_
      · simp [hqe, ho1, segsVals]
        exact ⟨hjl, ⟨hqp, hjl⟩, hqs⟩
      refine Run.callFn (r := kindV o.kind) noX_local rfl rfl rfl rfl rfl rfl rfl kind_enters rfl (fun w' _ => ?_) ?_
      · simp only [fnC_w0, Int.toNat_natCast, hqe]
        exact kind_ok o.kind w'
      unfold kindV
      generalize kindK o.kind = K at *
      obtain ⟨K, kb⟩ := K
      have hkd := kdV_one K
      have hke : K.evs = (evN o : Int) := hke
      have hev2 := evN_le o
      refine RunF_sound tab_ok noX_local 100 [] _ _ rfl ?_ ?_
      · simp [hkd, segsVals]
      refine hnxm _ ⟨i64_eq ?_, rfl, rfl, rfl, rfl, rfl, i64_eq (wrap_succ (by omega)), trivial⟩
      have e0 : intAt (kdV (K, kb).fst).toArray.toList (0 + 4 - 0) = (evN o : Int) := hke
      have h3 : sumN evN (l.take j) ≤ sumN evN l := by omega
      rw [e0, wrap_i64 (by omega) (by omega)]
      omega
theorem events_enters : Enters Tryd.prog 16 := enters_mk Tryd.func16 (by decide) rfl

/-- What the registers' names must be. -/
def regsB (p : Pn) (i : Nat) : Bool := decide (p.ri.getD i 0 = (p.regs.getD i []).length) && risesB regB (p.regs.getD i [])
def fitsL (p : Pn) (i : Nat) : Bool := (p.th.getD i []).all fun o => fitsB o (p.regs.getD i []) p.locs.length
/-- Whether a program is right: 0, or what is wrong with it. -/
def validN (p : Pn) : Int :=
  if p.th.length = 0 ∨ p.th.length > 4 then 95
  else if p.regs.length ≠ p.th.length ∨ p.ri.length ≠ p.th.length then 92
  else if (List.range p.regs.length).all (regsB p) = false then 92
  else if p.regs.all (fun l => decide (l.length ≤ 8)) = false then 98
  else if p.li ≠ p.locs.length ∨ risesB nameB p.locs = false then 52
  else if p.locs.length > 16 then 97
  else if (List.range p.th.length).all (fitsL p) = false then 93
  else if evsP p > 64 then 96
  else 0
end Go.Proofs.YtehimiadpgbhmaaDoor

/-
  Whether a program is right, walked. Own work.
-/
namespace Go.Proofs.YtehimiadpgbhmaaDoor
open Go.AM
set_option maxRecDepth 100000

set_option maxHeartbeats 8000000 in
theorem valid_ok (p : Pn) (w : World) (hP : SeesP w p) : Gives Tryd.prog 14 [encP p] w (.int .i64 (validN p)) := by
  refine Gives.of_run Tryd.func14 rfl (by show 1 ≤ 117; decide) ?_
  have hone := pV_one p
  have hml : maxLen = 9223372036854775807 := rfl
  have hlt := hP.lt
  have hlr := hP.lr
  have hll := hP.ll
  have hli := hP.li
  rw [hml] at hlt hlr hll hli
  obtain ⟨V, hV⟩ : ∃ V, V = validN p := ⟨_, rfl⟩
  rw [← hV]
  unfold validN at hV
  by_cases c0 : p.th.length = 0
  · refine RunF_sound tab_ok noX_local 200 [true, true] _ _ rfl ?_ ?_
    · simp [c0]
    rw [if_pos (.inl c0)] at hV
    refine Run.retP tab_ok Tryd.func14 rfl trivial (fun M => by rw [hV]; rfl)
  by_cases c1 : p.th.length > 4
  · refine RunF_sound tab_ok noX_local 200 [false, true] _ _ rfl ?_ ?_
    · simp [c0]; omega
    rw [if_pos (.inr c1)] at hV
    refine Run.retP tab_ok Tryd.func14 rfl trivial (fun M => by rw [hV]; rfl)
  rw [if_neg (by omega)] at hV
  by_cases c2 : p.regs.length = p.th.length
  rotate_left
  · refine RunF_sound tab_ok noX_local 200 [false, false, true, true] _ _ rfl ?_ ?_
    · simp [c0]; omega
    rw [if_pos (.inl c2)] at hV
    refine Run.retP tab_ok Tryd.func14 rfl trivial (fun M => by rw [hV]; rfl)
  by_cases c3 : p.ri.length = p.th.length
  rotate_left
  · refine RunF_sound tab_ok noX_local 200 [false, false, false, true] _ _ rfl ?_ ?_
    · simp [c0, c2]; omega
    rw [if_pos (.inr c3)] at hV
    refine Run.retP tab_ok Tryd.func14 rfl trivial (fun M => by rw [hV]; rfl)
  rw [if_neg (by omega)] at hV
  refine RunF_sound tab_ok noX_local 200 [false, false, false, false] _ _ rfl ?_ ?_
  · simp [c0, c2, c3]; omega
  suffices H : ∀ (d i : Nat), i + d = p.regs.length → (∀ j, j < i → regsB p j = true) → ∀ σ, inT σ.t [(1, .ptr 0 0), (38, .v (.slice p.pr p.regs.length p.cr)), (39, .v (.int .i64 (p.regs.length : Int))), (40, .v (.int .i64 (i : Int)))] → inT σ.h [(0, .cells 39 [.vals 5 (pV p)])] → Run _ _ σ by
    exact H p.regs.length 0 (by omega) (fun j hj => by omega) _ ⟨rfl, rfl, rfl, rfl, trivial⟩ ⟨rfl, trivial⟩
  intro d
  induction d with
  | succ d ih =>
    intro i hi hok σ ht hh
    refine Run.to ?_ ht hh (n' := 1)
    have hir : i < p.regs.length := by omega
    have hii : i < p.ri.length := by omega
    obtain ⟨hpr, q, c, hc, hq⟩ := hP.regs i hir
    obtain ⟨hpi, qi, ci, hci⟩ := hP.ri i hii
    have hlq := hP.lr2 p.regs[i] (List.getElem_mem hir)
    have hln := hP.li2 p.ri[i] (List.getElem_mem hii)
    rw [hml] at hlq hln
    have hrb : regsB p i = (decide (p.ri[i] = p.regs[i].length) && risesB regB p.regs[i]) := by
      rw [regsB, List.getD_eq_getElem?_getD, List.getD_eq_getElem?_getD, List.getElem?_eq_getElem hir, List.getElem?_eq_getElem hii]; rfl
    have hbad : regsB p i = false → V = 92 := fun h => by
      rw [hV, if_pos (List.all_eq_false.2 ⟨i, List.mem_range.2 hir, by rw [h]; exact Bool.false_ne_true⟩)]
    have hnx := fun (h : regsB p i = true) => ih (i + 1) (by omega) (fun j hj => by
      by_cases e : j = i
      · rw [e]; exact h
      · exact hok j (by omega))
    generalize p.regs[i] = rs at *
    generalize p.ri[i] = ni at *
    clear ih
    by_cases e1 : ni = rs.length
    · refine RunF_sound tab_ok noX_local 200 [true, false] _ _ rfl ?_ ?_
      · simp [hc, hci]
        exact ⟨hir, ⟨hpr, hir⟩, ⟨hpi, hii⟩, by omega⟩
      refine Run.callM (r := .bool (risesB regB rs)) noX_local rfl rfl rfl rfl rfl rfl rises_enters rfl (fun M w' _ hA => ?_) ?_
      · simp only [fnC_w0, Int.toNat_natCast, Nat.mul_one, hc]
        exact rises_ok 32 regB register_enters register_ok q c rs w' (hq.agree hA (fun _ _ f => f)) (by rw [hml]; exact hlq)
      cases hb : risesB regB rs with
      | true =>
        refine RunF_sound tab_ok noX_local 200 [false] _ _ rfl ?_ ?_
        · simp
        exact hnx (by rw [hrb, hb, decide_eq_true e1]; rfl) _ ⟨rfl, rfl, rfl, i64_eq (wrap_succ (by omega)), trivial⟩ ⟨rfl, trivial⟩
      | false =>
        refine RunF_sound tab_ok noX_local 200 [true] _ _ rfl ?_ ?_
        · simp
        rw [hbad (by rw [hrb, hb, Bool.and_false])]
        exact Run.retP tab_ok Tryd.func14 rfl trivial (fun M => rfl)
    · refine RunF_sound tab_ok noX_local 200 [true, true, true] _ _ rfl ?_ ?_
      · simp [hc, hci]
        exact ⟨hir, ⟨hpr, hir⟩, ⟨hpi, hii⟩, by omega⟩
      rw [hbad (by rw [hrb, decide_eq_false e1, Bool.false_and])]
      exact Run.retP tab_ok Tryd.func14 rfl trivial (fun M => rfl)
  | zero =>
  intro i hi hok σ ht hh
  refine Run.to ?_ ht hh (n' := 1)
  rw [if_neg (by rw [Bool.not_eq_false]; exact List.all_eq_true.2 fun j hj => hok j (by have := List.mem_range.1 hj; omega))] at hV
  refine RunF_sound tab_ok noX_local 200 [false] _ _ rfl ?_ ?_
  · simp; omega
  clear hok hi ht hh
  suffices H : ∀ (d i : Nat), i + d = p.regs.length → (∀ l ∈ p.regs.take i, l.length ≤ 8) → ∀ σ, inT σ.t [(1, .ptr 0 0), (61, .v (.slice p.pr p.regs.length p.cr)), (62, .v (.int .i64 (p.regs.length : Int))), (63, .v (.int .i64 (i : Int)))] → inT σ.h [(0, .cells 39 [.vals 5 (pV p)])] → Run _ _ σ by
    exact H p.regs.length 0 (by omega) (fun l hl => by cases hl) _ ⟨rfl, rfl, rfl, rfl, trivial⟩ ⟨rfl, trivial⟩
  intro d
  induction d with
  | succ d ih =>
    intro i hi hok σ ht hh
    refine Run.to ?_ ht hh (n' := 1)
    have hir : i < p.regs.length := by omega
    obtain ⟨hpr, q, c, hc, hq⟩ := hP.regs i hir
    have hlq := hP.lr2 p.regs[i] (List.getElem_mem hir)
    rw [hml] at hlq
    have hbad : ¬ (p.regs[i]).length ≤ 8 → V = 98 := fun h => by
      rw [hV, if_pos (List.all_eq_false.2 ⟨p.regs[i], List.getElem_mem hir, by rw [decide_eq_false h]; exact Bool.false_ne_true⟩)]
    have hnx := fun (h : (p.regs[i]).length ≤ 8) => ih (i + 1) (by omega) (fun l hl => by
      rw [List.take_succ_eq_append_getElem hir, List.mem_append, List.mem_singleton] at hl
      rcases hl with hl | rfl
      · exact hok l hl
      · exact h)
    generalize p.regs[i] = rs at *
    clear ih
    by_cases e1 : rs.length ≤ 8
    · refine RunF_sound tab_ok noX_local 200 [true, false] _ _ rfl ?_ ?_
      · simp [hc]
        exact ⟨hir, ⟨hpr, hir⟩, by omega⟩
      exact hnx e1 _ ⟨rfl, rfl, rfl, i64_eq (wrap_succ (by omega)), trivial⟩ ⟨rfl, trivial⟩
    · refine RunF_sound tab_ok noX_local 200 [true, true] _ _ rfl ?_ ?_
      · simp [hc]
        exact ⟨hir, ⟨hpr, hir⟩, by omega⟩
      rw [hbad e1]
      exact Run.retP tab_ok Tryd.func14 rfl trivial (fun M => rfl)
  | zero =>
  intro i hi hok σ ht hh
  refine Run.to ?_ ht hh (n' := 1)
  rw [if_neg (by
    rw [Bool.not_eq_false]
    rw [List.take_of_length_le (by omega)] at hok
    exact List.all_eq_true.2 fun l hl => decide_eq_true (hok l hl))] at hV
  clear hok
  by_cases c4 : p.li = p.locs.length
  rotate_left
  · refine RunF_sound tab_ok noX_local 200 [false, true, true] _ _ rfl ?_ ?_
    · simp; omega
    rw [if_pos (.inl c4)] at hV
    exact Run.retP tab_ok Tryd.func14 rfl trivial (fun M => by rw [hV]; rfl)
  refine RunF_sound tab_ok noX_local 200 [false, false] _ _ rfl ?_ ?_
  · simp; omega
  refine Run.callM (r := .bool (risesB nameB p.locs)) noX_local rfl rfl rfl rfl rfl rfl rises_enters rfl (fun M w' _ hA => ?_) ?_
  · exact rises_ok 33 nameB isName_enters isName_ok p.pl p.cl p.locs w' (hP.locs.agree hA (fun _ _ f => f)) (by rw [hml]; exact hll)
  cases c5 : risesB nameB p.locs with
  | false =>
    refine RunF_sound tab_ok noX_local 200 [true] _ _ rfl ?_ ?_
    · simp
    rw [if_pos (.inr c5)] at hV
    exact Run.retP tab_ok Tryd.func14 rfl trivial (fun M => by rw [hV]; rfl)
  | true =>
  rw [if_neg (fun h => h.elim (fun h => h c4) (fun h => by rw [c5] at h; cases h))] at hV
  by_cases c6 : p.locs.length > 16
  · refine RunF_sound tab_ok noX_local 200 [false, true] _ _ rfl ?_ ?_
    · simp; omega
    rw [if_pos c6] at hV
    exact Run.retP tab_ok Tryd.func14 rfl trivial (fun M => by rw [hV]; rfl)
  rw [if_neg c6] at hV
  refine RunF_sound tab_ok noX_local 200 [false, false] _ _ rfl ?_ ?_
  · simp; omega
  clear hi ht hh
  suffices H : ∀ (d i : Nat), i + d = p.th.length → (∀ j, j < i → fitsL p j = true) → ∀ σ, inT σ.t [(1, .ptr 0 0), (89, .v (.slice p.pt p.th.length p.ct)), (90, .v (.int .i64 (p.th.length : Int))), (91, .v (.int .i64 (i : Int)))] → inT σ.h [(0, .cells 39 [.vals 5 (pV p)])] → Run _ _ σ by
    exact H p.th.length 0 (by omega) (fun j hj => by omega) _ ⟨rfl, rfl, rfl, rfl, trivial⟩ ⟨rfl, trivial⟩
  intro d
  induction d with
  | zero =>
    intro i hi hok σ ht hh
    refine Run.to ?_ ht hh (n' := 1)
    rw [if_neg (by rw [Bool.not_eq_false]; exact List.all_eq_true.2 fun j hj => hok j (by have := List.mem_range.1 hj; omega))] at hV
    refine RunF_sound tab_ok noX_local 200 [false] _ _ rfl ?_ ?_
    · simp; omega
    refine Run.callFn (r := .int .i64 (evsP p)) noX_local rfl rfl rfl rfl rfl rfl rfl events_enters rfl (fun w' hA => events_ok p w' (hP.agree hA) (by omega) (by omega)) ?_
    by_cases c7 : evsP p > 64
    · refine RunF_sound tab_ok noX_local 200 [true] _ _ rfl ?_ ?_
      · simp; omega
      rw [if_pos c7] at hV
      exact Run.retP tab_ok Tryd.func14 rfl trivial (fun M => by rw [hV]; rfl)
    · refine RunF_sound tab_ok noX_local 200 [false] _ _ rfl ?_ ?_
      · simp; omega
      rw [if_neg c7] at hV
      exact Run.retP tab_ok Tryd.func14 rfl trivial (fun M => by rw [hV]; rfl)
  | succ d ih =>
    intro i hi hok σ ht hh
    refine Run.to ?_ ht hh (n' := 1)
    have hit : i < p.th.length := by omega
    have hir : i < p.regs.length := by omega
    obtain ⟨hpt, q, c, hc, hq⟩ := hP.th i hit
    obtain ⟨hpr, qr, cr, hcr, hqr⟩ := hP.regs i hir
    have hl8 := hP.lt2 p.th[i] (List.getElem_mem hit)
    have hfb : fitsL p i = p.th[i].all fun o => fitsB o p.regs[i] p.locs.length := by
      rw [fitsL, List.getD_eq_getElem?_getD, List.getD_eq_getElem?_getD, List.getElem?_eq_getElem hit, List.getElem?_eq_getElem hir]; rfl
    have hbad : fitsL p i = false → V = 93 := fun h => by
      rw [hV, if_pos (List.all_eq_false.2 ⟨i, List.mem_range.2 hit, by rw [h]; exact Bool.false_ne_true⟩)]
    have hnx := fun (h : fitsL p i = true) => ih (i + 1) (by omega) (fun j hj => by
      by_cases e : j = i
      · rw [e]; exact h
      · exact hok j (by omega))
    generalize p.th[i] = l at *
    generalize p.regs[i] = rs at *
    clear ih
    refine RunF_sound tab_ok noX_local 200 [true] _ _ rfl ?_ ?_
    · simp
      exact ⟨hit, ⟨hpt, hit⟩, by rw [hc]; rfl⟩
    refine Run.toC (t' := [(1, .ptr 0 0), (89, .v (.slice p.pt p.th.length p.ct)), (90, .v (.int .i64 (p.th.length : Int))), (91, .v (.int .i64 (i : Int))), (7, .v (.int .i64 (i : Int))), (96, .v (.slice q l.length c)), (97, .v (.int .i64 (l.length : Int))), (98, .v (.int .i64 (0 : Int)))]) (h' := [(0, .cells 39 [.vals 5 (pV p)])]) (n' := 1) ?_ ⟨inTC_same rfl, inTC_same rfl, inTC_same rfl, inTC_same rfl, inTC_same rfl, ⟨_, rfl, fun M => ?_⟩, ⟨_, rfl, fun M => ?_⟩, inTC_same rfl, trivial⟩ ⟨rfl, trivial⟩
    rotate_left
    · simp only [conc, fnC_w0, Int.toNat_natCast, Nat.mul_one, hc]; rfl
    · simp only [conc, fnC_w0, Int.toNat_natCast, Nat.mul_one, hc]; rfl
    suffices H2 : ∀ (m j : Nat), j + m = l.length → (∀ o ∈ l.take j, fitsB o rs p.locs.length = true) → ∀ σ, inT σ.t [(1, .ptr 0 0), (89, .v (.slice p.pt p.th.length p.ct)), (90, .v (.int .i64 (p.th.length : Int))), (91, .v (.int .i64 (i : Int))), (7, .v (.int .i64 (i : Int))), (96, .v (.slice q l.length c)), (97, .v (.int .i64 (l.length : Int))), (98, .v (.int .i64 (j : Int)))] → inT σ.h [(0, .cells 39 [.vals 5 (pV p)])] → Run _ _ σ by
      exact H2 l.length 0 (by omega) (fun o ho => by cases ho) _ ⟨rfl, rfl, rfl, rfl, rfl, rfl, rfl, rfl, trivial⟩ ⟨rfl, trivial⟩
    clear ht hh
    intro m
    induction m with
    | zero =>
      intro j hj hall σ ht hh
      refine Run.to ?_ ht hh (n' := 1)
      refine RunF_sound tab_ok noX_local 200 [false] _ _ rfl ?_ ?_
      · simp; omega
      rw [List.take_of_length_le (by omega)] at hall
      exact hnx (by rw [hfb]; exact List.all_eq_true.2 hall) _ ⟨rfl, rfl, rfl, i64_eq (wrap_succ (by omega)), trivial⟩ ⟨rfl, trivial⟩
    | succ m ihm =>
      intro j hj hall σ ht hh
      refine Run.to ?_ ht hh (n' := 1)
      have hjl : j < l.length := by omega
      have hbad2 : fitsB l[j] rs p.locs.length = false → fitsL p i = false := fun h => by
        rw [hfb]; exact List.all_eq_false.2 ⟨l[j], List.getElem_mem hjl, by rw [h]; exact Bool.false_ne_true⟩
      have hnxm := fun (h : fitsB l[j] rs p.locs.length = true) => ihm (j + 1) (by omega) (fun o ho => by
        rw [List.take_succ_eq_append_getElem hjl, List.mem_append, List.mem_singleton] at ho
        rcases ho with ho | rfl
        · exact hall o ho
        · exact h)
      have hqp := (hq j hjl).1
      have hqe := hq.ext j hjl
      have hqs := hq.some j hjl
      have ho1 := opV_one l[j]
      generalize l[j] = o at *
      refine RunF_sound tab_ok noX_local 200 [true] _ _ rfl ?_ ?_
      · simp [hqe, ho1, segsVals]
        exact ⟨hjl, ⟨hqp, hjl⟩, hqs⟩
      refine Run.to (t' := [(1, .ptr 0 0), (10, .ptr 1 0), (89, .v (.slice p.pt p.th.length p.ct)), (90, .v (.int .i64 (p.th.length : Int))), (91, .v (.int .i64 (i : Int))), (7, .v (.int .i64 (i : Int))), (96, .v (.slice q l.length c)), (97, .v (.int .i64 (l.length : Int))), (98, .v (.int .i64 (j : Int)))]) (h' := [(0, .cells 39 [.vals 5 (pV p)]), (1, .cells 60 [.vals 5 (opV o)])]) (n' := 2) ?_ ⟨rfl, rfl, rfl, rfl, rfl, rfl, rfl, rfl, rfl, trivial⟩ ⟨rfl, ?_, trivial⟩
      rotate_left
      · refine congrArg (fun l => some (Blk.cells 60 [.vals 5 l])) ?_
        show extCells w ((q.getD default).add ((j : Int).toNat * 5)) 0 5 = opV o
        rw [Int.toNat_natCast]; exact hqe
      refine Run.drawA noX_local rfl [] [(0, .cells 39 [.vals 5 (pV p)]), (1, .cells 60 [.vals 5 (opV o)])] rfl rfl ⟨rfl, rfl, trivial⟩ ?_
      refine RunOF_sound tab_ok noX_local rfl rfl 400 [] _ _ rfl ?_ ?_
      · simp
        exact ⟨⟨hpr, hir⟩, by rw [hcr]; rfl⟩
      refine RunO.callFn (r := .bool (fitsB o rs p.locs.length)) noX_local rfl rfl rfl rfl rfl rfl rfl rfl fits_enters rfl (fun w' hA => ?_) ?_
      · simp only [fnC_w0, Int.toNat_natCast, Nat.mul_one, show (slOf (pV p)[0 + 1 - 0]?).1 = p.pr from rfl, hcr]
        exact fits_ok o qr cr rs p.pl p.locs.length p.cl w' (hqr.agree hA (fun _ _ f => f))
      cases hf : fitsB o rs p.locs.length with
      | true =>
        refine RunOF_sound tab_ok noX_local rfl rfl 400 [] _ _ rfl ?_ ?_
        · simp
        refine RunO.done ?_
        refine RunF_sound tab_ok noX_local 200 [false] _ _ rfl ?_ ?_
        · simp
        exact hnxm hf _ ⟨rfl, rfl, rfl, rfl, rfl, rfl, rfl, i64_eq (wrap_succ (by omega)), trivial⟩ ⟨rfl, trivial⟩
      | false =>
        refine RunOF_sound tab_ok noX_local rfl rfl 400 [] _ _ rfl ?_ ?_
        · simp
        refine RunO.done ?_
        refine RunF_sound tab_ok noX_local 200 [true] _ _ rfl ?_ ?_
        · simp
        rw [hbad (hbad2 hf)]
        exact Run.retP tab_ok Tryd.func14 rfl trivial (fun M => rfl)
theorem valid_enters : Enters Tryd.prog 14 := enters_mk Tryd.func14 (by decide) rfl
end Go.Proofs.YtehimiadpgbhmaaDoor

/-
  Tries walked; what a right program is. Own work.
-/
namespace Go.Proofs.YtehimiadpgbhmaaDoor
open Go.AM
set_option maxRecDepth 100000

theorem valid_le {p : Pn} (h : validN p = 0) : p.th.length ≤ 4 ∧ p.locs.length ≤ 16 ∧ evsP p ≤ 64 := by
  unfold validN at h
  split at h
  · cases h
  rename_i h1
  split at h
  · cases h
  split at h
  · cases h
  split at h
  · cases h
  split at h
  · cases h
  split at h
  · cases h
  rename_i h6
  split at h
  · cases h
  split at h
  · cases h
  rename_i h8
  omega
def triesV (p : Pn) : Value := if validN p = 0 then .tuple #[.int .i64 (allN tryN p.th), .int .i64 0] else .tuple #[.int .i64 0, .int .i64 (validN p)]

set_option maxHeartbeats 4000000 in
theorem tries_ok (p : Pn) (w : World) (hP : SeesP w p) : Gives Tryd.prog 13 [encP p] w (triesV p) := by
  refine Gives.of_run Tryd.func13 rfl (by show 1 ≤ 36; decide) ?_
  have hone := pV_one p
  refine RunF_sound tab_ok noX_local 100 [] _ _ rfl ?_ ?_
  · simp
  refine Run.callFn (r := .int .i64 (validN p)) noX_local rfl rfl rfl rfl rfl rfl rfl valid_enters rfl (fun w' hA => valid_ok p w' (hP.agree hA)) ?_
  by_cases hv : validN p = 0
  rotate_left
  · rw [show triesV p = .tuple #[.int .i64 0, .int .i64 (validN p)] by unfold triesV; rw [if_neg hv]]
    refine RunF_sound tab_ok noX_local 100 [true] _ _ rfl ?_ ?_
    · simp [hv]
    refine Run.retL tab_ok Tryd.func13 rfl ?_ (fun M => ?_)
    · simp
    rfl
  rw [show triesV p = .tuple #[.int .i64 (allN tryN p.th), .int .i64 0] by unfold triesV; rw [if_pos hv]]
  obtain ⟨h4, h16, _⟩ := valid_le hv
  rw [hv]
  have hall : ∀ i, allN tryN (p.th.take i) ≤ 70368744177664 := fun i => by
    have h1 := allN_le tryN_le (m := 8796093022208) (p.th.take i) (fun x hx => hP.lt2 x (List.mem_of_mem_take hx))
    have h2 : (p.th.take i).length ≤ 4 := by rw [List.length_take]; omega
    have h3 := Nat.mul_le_mul_left (2 * 8796093022208) h2
    omega
  refine RunF_sound tab_ok noX_local 100 [false] _ _ rfl ?_ ?_
  · simp
  suffices H : ∀ (d i : Nat), i + d = p.th.length → ∀ σ, inT σ.t [(5, .v (.int .i64 (allN tryN (p.th.take i) : Int))), (16, .v (.slice p.pt p.th.length p.ct)), (17, .v (.int .i64 (p.th.length : Int))), (18, .v (.int .i64 (i : Int)))] → Run _ _ σ by
    exact H p.th.length 0 (by omega) _ ⟨rfl, rfl, rfl, rfl, trivial⟩
  intro d
  induction d with
  | zero =>
    intro i hi σ ht
    refine Run.to ?_ ht (h' := []) trivial (n' := 0)
    refine RunF_sound tab_ok noX_local 100 [false] _ _ rfl ?_ ?_
    · simp; omega
    refine Run.retL tab_ok Tryd.func13 rfl ?_ (fun M => ?_)
    · simp
    rw [List.take_of_length_le (by omega)]; rfl
  | succ d ih =>
    intro i hi σ ht
    refine Run.to ?_ ht (h' := []) trivial (n' := 0)
    have hix : i < p.th.length := by omega
    obtain ⟨hpt, q, c, hc, hq⟩ := hP.th i hix
    have hll := hP.lt2 p.th[i] (List.getElem_mem hix)
    have hal := hall (i + 1)
    have htk := allN_take tryN p.th hix
    have hnx := ih (i + 1) (by omega)
    rw [htk] at hnx hal
    generalize p.th[i] = l at *
    clear ih
    refine RunF_sound tab_ok noX_local 100 [true] _ _ rfl ?_ ?_
    · simp
      exact ⟨hix, ⟨hpt, hix⟩, by rw [hc]; rfl⟩
    refine Run.toC (t' := [(5, .v (.int .i64 (allN tryN (p.th.take i) : Int))), (16, .v (.slice p.pt p.th.length p.ct)), (17, .v (.int .i64 (p.th.length : Int))), (18, .v (.int .i64 (i : Int))), (22, .v (.slice q l.length c)), (23, .v (.int .i64 (l.length : Int))), (24, .v (.int .i64 (0 : Int)))]) (h' := []) (n' := 0) ?_ ⟨inTC_same rfl, inTC_same rfl, inTC_same rfl, inTC_same rfl, ⟨_, rfl, fun M => ?_⟩, ⟨_, rfl, fun M => ?_⟩, inTC_same rfl, trivial⟩ trivial
    rotate_left
    · simp only [conc, fnC_w0, Int.toNat_natCast, Nat.mul_one, hc]; rfl
    · simp only [conc, fnC_w0, Int.toNat_natCast, Nat.mul_one, hc]; rfl
    suffices H2 : ∀ (m j : Nat), j + m = l.length → ∀ σ, inT σ.t [(5, .v (.int .i64 ((allN tryN (p.th.take i) + sumN tryN (l.take j) : Nat) : Int))), (16, .v (.slice p.pt p.th.length p.ct)), (17, .v (.int .i64 (p.th.length : Int))), (18, .v (.int .i64 (i : Int))), (22, .v (.slice q l.length c)), (23, .v (.int .i64 (l.length : Int))), (24, .v (.int .i64 (j : Int)))] → Run _ _ σ by
      exact H2 l.length 0 (by omega) _ ⟨rfl, rfl, rfl, rfl, rfl, rfl, rfl, trivial⟩
    intro m
    induction m with
    | zero =>
      intro j hj σ ht
      refine Run.to ?_ ht (h' := []) trivial (n' := 0)
      refine RunF_sound tab_ok noX_local 100 [false] _ _ rfl ?_ ?_
      · simp; omega
      refine hnx _ ⟨?_, rfl, rfl, i64_eq (wrap_succ (by omega)), trivial⟩
      rw [List.take_of_length_le (show l.length ≤ j by omega)]; rfl
    | succ m ihm =>
      intro j hj σ ht
      refine Run.to ?_ ht (h' := []) trivial (n' := 0)
      have hjl : j < l.length := by omega
      have hsl := sumN_le tryN_le (l.take j)
      rw [List.length_take] at hsl
      have ha0 := hall i
      have hst := sumN_take tryN l hjl
      have hnxm := ihm (j + 1) (by omega)
      rw [hst] at hnxm
      have hqp := (hq j hjl).1
      have hqe := hq.ext j hjl
      have hqs := hq.some j hjl
      have ho1 := opV_one l[j]
      generalize l[j] = o at *
      by_cases h8 : o.kind = 8
      · have ht1 : tryN o = 1 := by unfold tryN; rw [if_pos h8]
        rw [ht1] at hnxm
        refine RunF_sound tab_ok noX_local 100 [true, true] _ _ rfl ?_ ?_
        · simp [hqe, ho1, segsVals, h8]
          exact ⟨hjl, ⟨hqp, hjl⟩, hqs⟩
        refine hnxm _ ⟨i64_eq ?_, rfl, rfl, rfl, rfl, rfl, i64_eq (wrap_succ (by omega)), trivial⟩
        rw [wrap_i64 (by omega) (by omega)]; omega
      · have ht1 : tryN o = 0 := by unfold tryN; rw [if_neg h8]
        rw [ht1] at hnxm
        refine RunF_sound tab_ok noX_local 100 [true, false] _ _ rfl ?_ ?_
        · simp [hqe, ho1, segsVals, h8]
          exact ⟨hjl, ⟨hqp, hjl⟩, hqs⟩
        exact hnxm _ ⟨rfl, rfl, rfl, rfl, rfl, rfl, i64_eq (wrap_succ (by omega)), trivial⟩
theorem tries_enters : Enters Tryd.prog 13 := enters_mk Tryd.func13 (by decide) rfl
end Go.Proofs.YtehimiadpgbhmaaDoor

/-
  The abstract machine, forty-fourth part: a call walked in its place: all owned blocks go in, and what the callee leaves of them comes back. Own work; over any program.
-/
namespace Go.AM

mutual
/-- Does a value speak of some blocks alone, and of where they lie alone? -/
def AV.pin (ids : List Nat) : AV → Bool
  | .v _ => true
  | .tt _ => true
  | .ptr id _ => has ids id
  | .elt id _ _ => has ids id
  | .fn _ caps => pinL ids caps
  | .agg l => pinL ids l
  | .tup l => pinL ids l
  | _ => false
def pinL (ids : List Nat) : List AV → Bool
  | [] => true
  | x :: r => match x.pin ids with | true => pinL ids r | false => false
end
mutual
theorem conc_pin {M M' : Loc} {ids : List Nat} (h : ∀ id ∈ ids, (M' id).1 = (M id).1) : ∀ x : AV, x.pin ids = true → conc M' x = conc M x
  | .v _, _ => by simp [conc]
  | .tt _, _ => by simp [conc]
  | .ptr id off, hb => by simp only [AV.pin] at hb; simp [conc, h id (has_iff.1 hb)]
  | .elt id off j, hb => by simp only [AV.pin] at hb; simp [conc, h id (has_iff.1 hb)]
  | .mp id, hb => by simp [AV.pin] at hb
  | .sl id sz off len, hb => by simp [AV.pin] at hb
  | .fn f caps, hb => by simp only [AV.pin] at hb; simp only [conc, concL_pin h caps hb]
  | .agg l, hb => by simp only [AV.pin] at hb; simp only [conc, concL_pin h l hb]
  | .tup l, hb => by simp only [AV.pin] at hb; simp only [conc, concL_pin h l hb]
theorem concL_pin {M M' : Loc} {ids : List Nat} (h : ∀ id ∈ ids, (M' id).1 = (M id).1) : ∀ l : List AV, pinL ids l = true → concL M' l = concL M l
  | [], _ => by simp [concL]
  | x :: r, hb => by
    simp only [pinL] at hb
    split at hb
    · rename_i hx; simp only [concL, conc_pin h x hx, concL_pin h r hb]
    · cases hb
end
def tPin (ids : List Nat) : List (Nat × AV) → Bool
  | [] => true
  | (_, x) :: r => match x.pin ids with | true => tPin ids r | false => false
theorem tPin_lk {ids : List Nat} : ∀ {l : List (Nat × AV)} {i : Nat} {x : AV}, tPin ids l = true → lk l i = some x → x.pin ids = true
  | [], i, x, _, h => by cases h
  | (j, y) :: r, i, x, hb, h => by
    simp only [tPin] at hb
    split at hb
    · rename_i hy
      simp only [lk] at h
      split at h
      · cases h; exact hy
      · exact tPin_lk hb h
    · cases hb

mutual
theorem ren_pin {ρ : List (Nat × Nat)} {ids : List Nat} (h : ∀ id ∈ ids, ap ρ id = id) : ∀ x : AV, x.pin ids = true → ren ρ x = x
  | .v _, _ => rfl
  | .tt _, _ => rfl
  | .ptr id off, hb => by simp only [AV.pin] at hb; simp only [ren, h id (has_iff.1 hb)]
  | .elt id off j, hb => by simp only [AV.pin] at hb; simp only [ren, h id (has_iff.1 hb)]
  | .mp id, hb => by simp [AV.pin] at hb
  | .sl id sz off len, hb => by simp [AV.pin] at hb
  | .fn f caps, hb => by simp only [AV.pin] at hb; simp only [ren, renL_pin h caps hb]
  | .agg l, hb => by simp only [AV.pin] at hb; simp only [ren, renL_pin h l hb]
  | .tup l, hb => by simp only [AV.pin] at hb; simp only [ren, renL_pin h l hb]
theorem renL_pin {ρ : List (Nat × Nat)} {ids : List Nat} (h : ∀ id ∈ ids, ap ρ id = id) : ∀ l : List AV, pinL ids l = true → renL ρ l = l
  | [], _ => rfl
  | x :: r, hb => by
    simp only [pinL] at hb
    split at hb
    · rename_i hx; simp only [renL, ren_pin h x hx, renL_pin h r hb]
    · cases hb
end
theorem inTR_pin {ρ : List (Nat × Nat)} {ids : List Nat} (h : ∀ id ∈ ids, ap ρ id = id) {l : List (Nat × AV)} : ∀ {l' : List (Nat × AV)}, inT l l' → tPin ids l' = true → inTR ρ l l'
  | [], _, _ => trivial
  | (i, x) :: r, ht, hp => by
    simp only [tPin] at hp
    split at hp
    · rename_i hx
      exact ⟨by rw [ren_pin h x hx]; exact ht.1, inTR_pin h ht.2 hp⟩
    · cases hp

/-- What the caller goes on from, behind a call that is walked in its place. -/
def RetI (C : Ctx) (todo : List Item) (dst : Option Nat) (a : Act) (v : Value) (w' : World) : Prop := ∃ M' fp' σ' z, conc M' z = v ∧ Rel C M' fp' σ' a w' ∧ Run C todo (σ'.put dst z)

/-- A call, walked in its place. -/
theorem Run.callI {C : Ctx} {k : List Item} {σ : St} {ops : Array Oper} {i : Nat} {rest : List Nat} {o : Oper} {c : Call} {g : Operand} {f : FuncId} {caps xs : List AV} {fn : Func} {cd : Code}
    (ho : ops[i]? = some o) (hop : o.op = .call c) (hc : c.callee = .value g) (hg : σ.ev g = some (.fn f caps)) (hxs : evs σ c.args.toList = some xs) (hw : wantOf ops σ o = some .yes) (hent : Enters C.P f)
    (hd : dstOK C.n o.dst = true) (hf : C.P.funcs[f]? = some fn) (hb : fn.body = some cd) (hn : (xs ++ caps).length ≤ fn.ntmps)
    (hrun : ∀ M fp a w, Rel C M fp σ a w → Run (fnL C.P f (xs ++ caps).length fn.ntmps (concL M (xs ++ caps)).toArray w (footH M fp σ.h) C.X (RetI C (.inRegion ops rest :: k) o.dst a)) [.code cd] ⟨argsA 0 (xs ++ caps), σ.h, σ.nx⟩) :
    Run C (.inRegion ops (i :: rest) :: k) σ := by
  refine Run.callK ho hop hc hg hxs hw hent hd fun M fp a w hR => ?_
  refine Calls.mono' (givesL_of_run (X := C.X) (fp := fp) hf hb hn hR.outer (fun b hb => (hR.fpok b hb).1) hR.heap hR.inj hR.apart (hrun M fp a w hR)) fun e w' ⟨v, h1, M', fp', σ', z, h2, h3, h4⟩ => ?_
  exact ⟨v, h1, C.X, M', fp', σ', z, h2, h3, h4⟩

theorem footH_back {C : Ctx} {M : Loc} {fp : Nat → Prop} {σ : St} {a : Act} {w : World} (hR : Rel C M fp σ a w) {b : Nat} (h : footH M fp σ.h b) (hb : b < C.w0.heap.size) : C.S0 b := by
  rcases h with h | ⟨id, B, hB, rfl⟩
  · exact (hR.fpok b h).2 hb
  · exact hR.own id B hB hb

theorem Run.finF {P : Program} {T : Tab} (hT : tabOK P T) {f : FuncId} {fn : Func} {lo n : Nat} {t0 : Array Value} {w0 : World} {S0 : Nat → Prop} {X : Res} {R : Value → World → Prop} {σ : St} {p : Prop} {l : List AV}
    (hf : P.funcs[f]? = some fn) (h : resOf T w0 S0 σ fn.results.toList = some (p, l)) (hp : p)
    (hR : ∀ M fp a w, Rel (fnL P f lo n t0 w0 S0 X R) M fp σ a w → R (conc M (resAV l)) w) : Run (fnL P f lo n t0 w0 S0 X R) [] σ := by
  intro M fp a w hr cs
  refine ⟨_, .one (stepR_end rfl), _, w, _, rfl, rfl, ⟨rfl, hr.defers, rfl, fn, hf, ?_⟩, hR M fp a w hr⟩
  exact results_run hT hr (fn := fn) h hp

theorem RetI.of {C : Ctx} {f : FuncId} {n : Nat} {args : List AV} {M M' : Loc} {fp fp' : Nat → Prop} {a ac : Act} {w w' : World} {σ σc : St} {todo : List Item} {dst : Option Nat} {z : AV} {R : Value → World → Prop} (hR : Rel C M fp σ a w)
    (hR' : Rel (fnL C.P f args.length n (concL M args).toArray w (footH M fp σ.h) C.X R) M' fp' σc ac w') (pins : List (Nat × Nat × Nat)) (t' : List (Nat × AV)) (h' : List (Nat × Blk)) (nx' : Nat)
    (hpin : ∀ q ∈ pins, args[q.1]? = some (.ptr q.2.1 q.2.2) ∧ lk σc.t q.1 = some (.ptr q.2.1 q.2.2)) (ht : inT σ.t t') (hok : tPin (pins.map (·.2.1)) t' = true) (hh : inT σc.h h')
    (h : Run C todo (St.put ⟨t', h', nx'⟩ dst z)) : RetI C todo dst a (conc M' z) w' := by
  refine ⟨M', fp', ⟨t', h', nx'⟩, z, rfl, ?_, h⟩
  have hag : Agree (footH M fp σ.h) w w' := hR'.agree
  have hsz : C.w0.heap.size ≤ w.heap.size := hR.agree.size
  have hM : ∀ id ∈ pins.map (·.2.1), (M' id).1 = (M id).1 := by
    intro id hid
    obtain ⟨⟨j, id', off⟩, hq, rfl⟩ := List.mem_map.1 hid
    obtain ⟨h1, h2⟩ := hpin _ hq
    have h3 := concL_get (M := M) h1
    have hlt : j < args.length := (List.getElem?_eq_some_iff.1 h1).1
    have h4 := hR'.frozen j hlt
    rw [hR'.tmps j _ h2] at h4
    have h5 : some (conc M' (.ptr id' off)) = some (conc M (.ptr id' off)) := h4.trans (by simpa using h3)
    simp only [conc, Option.some.injEq, Value.pointer.injEq, Addr.mk.injEq] at h5
    exact h5.1
  refine { heap := fun id B hB => hR'.heap id B (inT_lk hh id B hB), inj := fun i j B B' hB hB' e => hR'.inj i j B B' (inT_lk hh _ _ hB) (inT_lk hh _ _ hB') e, own := ?_, apart := fun id B hB => hR'.apart id B (inT_lk hh id B hB), agree := ?_, outer := hR'.outer, fpok := ?_, size := hR.size, frozen := hR.frozen, tmps := ?_, defers := hR.defers }
  · intro id B hB hlt
    exact footH_back hR (hR'.own id B (inT_lk hh id B hB) (Nat.lt_of_lt_of_le hlt hsz)) hlt
  · exact hR.agree.trans hag fun b hb hlt => footH_back hR hb hlt
  · intro b hb
    obtain ⟨h1, h2⟩ := hR'.fpok b hb
    exact ⟨h1, fun hlt => footH_back hR (h2 (Nat.lt_of_lt_of_le hlt hsz)) hlt⟩
  · intro i x hx
    rw [hR.tmps i x (inT_lk ht i x hx), conc_pin hM x (tPin_lk hok hx)]

section
variable {C : Ctx} {T : Tab} {f : FuncId} {fn : Func} {n : Nat} {args : List AV} {M : Loc} {fp : Nat → Prop} {a : Act} {w : World} {σ σc : St} {k todo : List Item} {dst : Option Nat} {p : Prop} {l : List AV}

/-- Its return. -/
theorem Run.retI' (hT : tabOK C.P T) (hR : Rel C M fp σ a w)
    (pins : List (Nat × Nat × Nat)) (t' : List (Nat × AV)) (h' : List (Nat × Blk)) (nx' : Nat) (hf : C.P.funcs[f]? = some fn) (hres : resOf T w (footH M fp σ.h) σc fn.results.toList = some (p, l)) (hp : p)
    (hpin : ∀ q ∈ pins, args[q.1]? = some (.ptr q.2.1 q.2.2) ∧ lk σc.t q.1 = some (.ptr q.2.1 q.2.2)) (ht : inT σ.t t') (hok : tPin (pins.map (·.2.1)) t' = true) (hh : inT σc.h h')
    (h : Run C todo (St.put ⟨t', h', nx'⟩ dst (resAV l))) :
    Run (fnL C.P f args.length n (concL M args).toArray w (footH M fp σ.h) C.X (RetI C todo dst a)) (.code .ret :: k) σc :=
  Run.retF hT hf hres hp fun M' fp' ac w' hR' => RetI.of hR hR' pins t' h' nx' hpin ht hok hh h

/-- Its end. -/
theorem Run.finI' (hT : tabOK C.P T) (hR : Rel C M fp σ a w)
    (pins : List (Nat × Nat × Nat)) (t' : List (Nat × AV)) (h' : List (Nat × Blk)) (nx' : Nat) (hf : C.P.funcs[f]? = some fn) (hres : resOf T w (footH M fp σ.h) σc fn.results.toList = some (p, l)) (hp : p)
    (hpin : ∀ q ∈ pins, args[q.1]? = some (.ptr q.2.1 q.2.2) ∧ lk σc.t q.1 = some (.ptr q.2.1 q.2.2)) (ht : inT σ.t t') (hok : tPin (pins.map (·.2.1)) t' = true) (hh : inT σc.h h')
    (h : Run C todo (St.put ⟨t', h', nx'⟩ dst (resAV l))) :
    Run (fnL C.P f args.length n (concL M args).toArray w (footH M fp σ.h) C.X (RetI C todo dst a)) [] σc :=
  Run.finF hT hf hres hp fun M' fp' ac w' hR' => RetI.of hR hR' pins t' h' nx' hpin ht hok hh h
end
end Go.AM

/-
  One event more: what List's own function does. Own work.
-/
namespace Go.Proofs.YtehimiadpgbhmaaDoor
open Go.AM
set_option maxRecDepth 100000

def evsR : List Ev → List Value
  | [] => []
  | e :: l => evV e ++ evsR l
theorem evsR_len : ∀ L : List Ev, (evsR L).length = L.length * 5
  | [] => rfl
  | e :: l => by simp [evsR, evsR_len l]; omega
theorem evsR_app (e : Ev) : ∀ L : List Ev, evsR (L ++ [e]) = evsR L ++ evV e
  | [] => by simp [evsR]
  | x :: l => by simp [evsR, evsR_app e l]
def vZ (id : Nat) (L : List Ev) : AV := match L with
  | [] => .v (.slice none 0 0)
  | e :: l => .sl id 5 0 (l.length + 1)
def vBk (id : Nat) (L : List Ev) : List (Nat × Blk) := match L with
  | [] => []
  | e :: l => [(id, .row 52 5 (l.length + 1) (evsR (e :: l)))]
def evPut (kd th ix : Int) (o : Opn) (lck : Bool) : Ev := ⟨kd, th, ix, if kd = 4 then -1 else o.loc, lck⟩
def putH (th ix : Int) (o : Opn) (L : List Ev) : List (Nat × Blk) :=
  [(1, .cells 22 [.one (vZ 2 L)]), (3, .cells 3 [.one (.v (.int .i64 th))]), (4, .cells 3 [.one (.v (.int .i64 ix))]), (5, .cells 60 [.vals 5 (opV o)])] ++ vBk 2 L

def newH (th ix : Int) (o : Opn) (N : Nat) (R : List Value) : List (Nat × Blk) :=
  [(1, .cells 22 [.one (.sl 8 5 0 N)]), (8, .row 52 5 N R), (3, .cells 3 [.one (.v (.int .i64 th))]), (4, .cells 3 [.one (.v (.int .i64 ix))]), (5, .cells 60 [.vals 5 (opV o)])]

theorem take_all (e : Ev) (L : List Ev) : (evsR (e :: L)).take ((L.length + 1) * 5) = evsR (e :: L) := List.take_of_length_le (by rw [evsR_len]; exact Nat.le_refl _)

set_option maxHeartbeats 2000000 in
theorem put_call {C : Ctx} {k : List Item} {ops : Array Oper} {i : Nat} {rest : List Nat} {o : Oper} {c : Call} {g : Operand} {t t' : List (Nat × AV)} (hP : C.P = Tryd.prog) (hL : Local C.X) (kd : Int) (lck : Bool) (th ix : Int) (op : Opn) (L : List Ev)
    (hl : L.length < 1099511627776) (ho : ops[i]? = some o) (hop : o.op = .call c) (hc : c.callee = .value g) (hg : (⟨t, putH th ix op L, 6⟩ : St).ev g = some (.fn 35 [.ptr 3 0, .ptr 4 0, .ptr 5 0, .ptr 1 0]))
    (hxs : evs ⟨t, putH th ix op L, 6⟩ c.args.toList = some [.v (.int .i64 kd), .tt lck]) (hw : wantOf ops ⟨t, putH th ix op L, 6⟩ o = some .yes) (hd : dstOK C.n o.dst = true) (ht : inT t t') (hpin : tPin [3, 4, 5, 1] t' = true)
    (hput : inT (St.put ⟨t', [], 6⟩ o.dst (.tup [])).t t') (hnx : Run C (.inRegion ops rest :: k) ⟨t', putH th ix op (L ++ [evPut kd th ix op lck]), 6⟩) : Run C (.inRegion ops (i :: rest) :: k) ⟨t, putH th ix op L, 6⟩ := by
  obtain ⟨P, w0, S0, X, b, n, t0, ds, Z⟩ := C
  simp only at hP
  subst hP
  have hone := opV_one op
  refine Run.callI ho hop hc hg hxs hw (enters_mk Tryd.func35 (by decide) rfl) hd Tryd.func35 rfl (by show 6 ≤ 23; decide) fun M fp a w hR => ?_
  have hput' : ∀ h n, inT (St.put ⟨t', h, n⟩ o.dst (.tup [])).t t' := fun h n => by
    cases e : o.dst with
    | none => rw [e] at hput; exact hput
    | some d => rw [e] at hput; exact hput
  have hfin : ∀ E, E = evPut kd th ix op lck → Run ⟨Tryd.prog, w0, S0, X, b, n, t0, ds, Z⟩ (.inRegion ops rest :: k) (St.put ⟨t', newH th ix op (L.length + 1) (evsR L ++ evV E), 9⟩ o.dst (.tup [])) := fun E hE => by
    subst hE
    refine Run.toR [(2, 8)] hnx (inTR_pin (by decide) (hput' _ _) hpin) ?_ ?_
    · have hz : L ++ [evPut kd th ix op lck] = [] → False := by simp
      have e1 : (L ++ [evPut kd th ix op lck]).length = L.length + 1 := by simp
      have e2 := evsR_app (evPut kd th ix op lck) L
      generalize L ++ [evPut kd th ix op lck] = Q at *
      rcases Q with _ | ⟨q, Q⟩
      · exact (hz rfl).elim
      · rw [List.length_cons] at e1
        rw [← e1, ← e2]
        cases o.dst <;> exact ⟨rfl, rfl, rfl, rfl, rfl, trivial⟩
    · generalize L ++ [evPut kd th ix op lck] = Q
      rcases Q with _ | ⟨q, Q⟩ <;> rfl
  cases lck
  · rcases L with _ | ⟨e, L⟩
    · by_cases h4 : kd = 4
      · subst h4
        refine RunF_sound (C := fnL _ _ _ _ _ _ _ _ _) tab_ok hL 200 [true] _ _ rfl ?_ ?_
        · simp [maxLen, fillL, repL, splice, Value.cells, Value.oneCell', okCell, evV, segsVals, szBool, ofConst]
        refine Run.finI' tab_ok hR [(2, 3, 0), (3, 4, 0), (4, 5, 0), (5, 1, 0)] t' (newH th ix op 1 (evV ⟨4, th, ix, -1, false⟩)) 9 Tryd.func35 rfl trivial ?_ ht hpin ⟨rfl, rfl, rfl, rfl, rfl, trivial⟩ (hfin _ rfl)
        simp only [List.mem_cons, List.not_mem_nil, or_false]
        rintro q (rfl | rfl | rfl | rfl) <;> exact ⟨rfl, rfl⟩
      · skip
        refine RunF_sound (C := fnL _ _ _ _ _ _ _ _ _) tab_ok hL 200 [false] _ _ rfl ?_ ?_
        · simp [maxLen, fillL, repL, splice, Value.cells, Value.oneCell', okCell, evV, segsVals, szBool, h4]
        refine Run.finI' tab_ok hR [(2, 3, 0), (3, 4, 0), (4, 5, 0), (5, 1, 0)] t' (newH th ix op 1 (evV ⟨kd, th, ix, op.loc, false⟩)) 9 Tryd.func35 rfl trivial ?_ ht hpin ⟨rfl, rfl, rfl, rfl, rfl, trivial⟩ (hfin _ (by simp [evPut, h4]))
        simp only [List.mem_cons, List.not_mem_nil, or_false]
        rintro q (rfl | rfl | rfl | rfl) <;> exact ⟨rfl, rfl⟩
    · by_cases h4 : kd = 4
      · subst h4
        refine RunF_sound (C := fnL _ _ _ _ _ _ _ _ _) tab_ok hL 200 [true] _ _ rfl ?_ ?_
        · simp [maxLen, fillL, repL, splice, Value.cells, Value.oneCell', okCell, evV, segsVals, szBool, ofConst]
          simp at hl; omega
        refine Run.finI' tab_ok hR [(2, 3, 0), (3, 4, 0), (4, 5, 0), (5, 1, 0)] t' (newH th ix op (L.length + 1 + 1) (evsR (e :: L) ++ evV ⟨4, th, ix, -1, false⟩)) 9 Tryd.func35 rfl trivial ?_ ht hpin ⟨rfl, ?_, rfl, rfl, rfl, trivial⟩ (hfin _ rfl)
        rotate_left
        · exact Eq.trans rfl (congrArg (fun r => some (Blk.row 52 5 (L.length + 1 + 1) (r ++ evV ⟨4, th, ix, -1, false⟩))) (take_all e L))
        simp only [List.mem_cons, List.not_mem_nil, or_false]
        rintro q (rfl | rfl | rfl | rfl) <;> exact ⟨rfl, rfl⟩
      · skip
        refine RunF_sound (C := fnL _ _ _ _ _ _ _ _ _) tab_ok hL 200 [false] _ _ rfl ?_ ?_
        · simp [maxLen, fillL, repL, splice, Value.cells, Value.oneCell', okCell, evV, segsVals, szBool, h4]
          simp at hl; omega
        refine Run.finI' tab_ok hR [(2, 3, 0), (3, 4, 0), (4, 5, 0), (5, 1, 0)] t' (newH th ix op (L.length + 1 + 1) (evsR (e :: L) ++ evV ⟨kd, th, ix, op.loc, false⟩)) 9 Tryd.func35 rfl trivial ?_ ht hpin ⟨rfl, ?_, rfl, rfl, rfl, trivial⟩ (hfin _ (by simp [evPut, h4]))
        rotate_left
        · exact Eq.trans rfl (congrArg (fun r => some (Blk.row 52 5 (L.length + 1 + 1) (r ++ evV ⟨kd, th, ix, op.loc, false⟩))) (take_all e L))
        simp only [List.mem_cons, List.not_mem_nil, or_false]
        rintro q (rfl | rfl | rfl | rfl) <;> exact ⟨rfl, rfl⟩
  · rcases L with _ | ⟨e, L⟩
    · by_cases h4 : kd = 4
      · subst h4
        refine RunF_sound (C := fnL _ _ _ _ _ _ _ _ _) tab_ok hL 200 [true] _ _ rfl ?_ ?_
        · simp [maxLen, fillL, repL, splice, Value.cells, Value.oneCell', okCell, evV, segsVals, szBool, ofConst]
        refine Run.finI' tab_ok hR [(2, 3, 0), (3, 4, 0), (4, 5, 0), (5, 1, 0)] t' (newH th ix op 1 (evV ⟨4, th, ix, -1, true⟩)) 9 Tryd.func35 rfl trivial ?_ ht hpin ⟨rfl, rfl, rfl, rfl, rfl, trivial⟩ (hfin _ rfl)
        simp only [List.mem_cons, List.not_mem_nil, or_false]
        rintro q (rfl | rfl | rfl | rfl) <;> exact ⟨rfl, rfl⟩
      · skip
        refine RunF_sound (C := fnL _ _ _ _ _ _ _ _ _) tab_ok hL 200 [false] _ _ rfl ?_ ?_
        · simp [maxLen, fillL, repL, splice, Value.cells, Value.oneCell', okCell, evV, segsVals, szBool, h4]
        refine Run.finI' tab_ok hR [(2, 3, 0), (3, 4, 0), (4, 5, 0), (5, 1, 0)] t' (newH th ix op 1 (evV ⟨kd, th, ix, op.loc, true⟩)) 9 Tryd.func35 rfl trivial ?_ ht hpin ⟨rfl, rfl, rfl, rfl, rfl, trivial⟩ (hfin _ (by simp [evPut, h4]))
        simp only [List.mem_cons, List.not_mem_nil, or_false]
        rintro q (rfl | rfl | rfl | rfl) <;> exact ⟨rfl, rfl⟩
    · by_cases h4 : kd = 4
      · subst h4
        refine RunF_sound (C := fnL _ _ _ _ _ _ _ _ _) tab_ok hL 200 [true] _ _ rfl ?_ ?_
        · simp [maxLen, fillL, repL, splice, Value.cells, Value.oneCell', okCell, evV, segsVals, szBool, ofConst]
          simp at hl; omega
        refine Run.finI' tab_ok hR [(2, 3, 0), (3, 4, 0), (4, 5, 0), (5, 1, 0)] t' (newH th ix op (L.length + 1 + 1) (evsR (e :: L) ++ evV ⟨4, th, ix, -1, true⟩)) 9 Tryd.func35 rfl trivial ?_ ht hpin ⟨rfl, ?_, rfl, rfl, rfl, trivial⟩ (hfin _ rfl)
        rotate_left
        · exact Eq.trans rfl (congrArg (fun r => some (Blk.row 52 5 (L.length + 1 + 1) (r ++ evV ⟨4, th, ix, -1, true⟩))) (take_all e L))
        simp only [List.mem_cons, List.not_mem_nil, or_false]
        rintro q (rfl | rfl | rfl | rfl) <;> exact ⟨rfl, rfl⟩
      · skip
        refine RunF_sound (C := fnL _ _ _ _ _ _ _ _ _) tab_ok hL 200 [false] _ _ rfl ?_ ?_
        · simp [maxLen, fillL, repL, splice, Value.cells, Value.oneCell', okCell, evV, segsVals, szBool, h4]
          simp at hl; omega
        refine Run.finI' tab_ok hR [(2, 3, 0), (3, 4, 0), (4, 5, 0), (5, 1, 0)] t' (newH th ix op (L.length + 1 + 1) (evsR (e :: L) ++ evV ⟨kd, th, ix, op.loc, true⟩)) 9 Tryd.func35 rfl trivial ?_ ht hpin ⟨rfl, ?_, rfl, rfl, rfl, trivial⟩ (hfin _ (by simp [evPut, h4]))
        rotate_left
        · exact Eq.trans rfl (congrArg (fun r => some (Blk.row 52 5 (L.length + 1 + 1) (r ++ evV ⟨kd, th, ix, op.loc, true⟩))) (take_all e L))
        simp only [List.mem_cons, List.not_mem_nil, or_false]
        rintro q (rfl | rfl | rfl | rfl) <;> exact ⟨rfl, rfl⟩
end Go.Proofs.YtehimiadpgbhmaaDoor

/-
  List walked. Own work.
-/
namespace Go.Proofs.YtehimiadpgbhmaaDoor
open Go.AM
set_option maxRecDepth 100000

theorem initEv_succ (k : Nat) : initEv (k + 1) = initEv k ++ [⟨1, -1, 0, (k : Int), false⟩] := by
  unfold initEv; rw [List.range_succ, List.map_append]; rfl
theorem inT_app {α : Type} {l : List (Nat × α)} : ∀ {a b : List (Nat × α)}, inT l a → inT l b → inT l (a ++ b)
  | [], _, _, h => h
  | (i, x) :: r, _, h, k => ⟨h.1, inT_app h.2 k⟩
theorem inHR_app {ρ : List (Nat × Nat)} {l : List (Nat × Blk)} : ∀ {a b : List (Nat × Blk)}, inHR ρ l a → inHR ρ l b → inHR ρ l (a ++ b)
  | [], _, _, h => h
  | (i, x) :: r, _, h, k => ⟨h.1, inHR_app h.2 k⟩
theorem inT_self {α : Type} : ∀ {l : List (Nat × α)}, (∀ p ∈ l, lk l p.1 = some p.2) → inT l l := by
  intro l h
  have : ∀ m : List (Nat × α), (∀ p ∈ m, lk l p.1 = some p.2) → inT l m := by
    intro m
    induction m with
    | nil => intro _; trivial
    | cons a m ih => intro hm; exact ⟨hm a List.mem_cons_self, ih fun p hp => hm p (List.mem_cons_of_mem _ hp)⟩
  exact this l h

theorem putH_self (th ix : Int) (o : Opn) (L : List Ev) : inT (putH th ix o L) (putH th ix o L) := by
  cases L with
  | nil => exact ⟨rfl, rfl, rfl, rfl, trivial⟩
  | cons e L => exact ⟨rfl, rfl, rfl, rfl, rfl, trivial⟩
theorem putH_H2 (th ix : Int) (o : Opn) (L : List Ev) : inT (putH th ix o L) ([(1, .cells 22 [.one (vZ 2 L)]), (3, .cells 3 [.one (.v (.int .i64 th))])] ++ vBk 2 L) := by
  cases L with
  | nil => exact ⟨rfl, rfl, trivial⟩
  | cons e L => exact ⟨rfl, rfl, rfl, trivial⟩
theorem bandb' (x : BitVec 64) (i : Nat) : band .u64 (un (x >>> i)) 1 = if x.getLsbD i = true then 1 else 0 := by
  by_cases h : x.getLsbD i = true
  · rw [if_pos h, bit1]; exact h
  · rw [if_neg h, band1_un]
    have : (x >>> i) &&& 1#64 = 0#64 := by
      apply BitVec.eq_of_getLsbD_eq
      intro j hj
      rw [BitVec.getLsbD_and, BitVec.getLsbD_one, BitVec.getLsbD_zero]
      by_cases hj0 : j = 0
      · subst hj0
        rw [BitVec.getLsbD_ushiftRight, Nat.add_zero]
        simp [h]
      · simp [hj0]
    rw [this]; rfl

/-- What List hands over. -/
def listZ (p : Pn) (f : BitVec 64) : AV × List (Nat × Blk) :=
  if validN p ≠ 0 then (.tup [.v (.slice none 0 0), .v (.int .i64 (validN p))], [])
  else if allN tryN p.th < 64 ∧ f >>> (allN tryN p.th) ≠ 0#64 then (.tup [.v (.slice none 0 0), .v (.int .i64 4)], [])
  else (.tup [vZ 0 (listF p.locs.length p.th f), .v (.int .i64 0)], vBk 0 (listF p.locs.length p.th f))

set_option maxHeartbeats 8000000 in
theorem list_ok (p : Pn) (f : BitVec 64) (w : World) (hP : SeesP w p) : HandsZ Tryd.prog 15 [encP p, .int .u64 (un f)] w (listZ p f).1 (listZ p f).2 := by
  refine HandsZ.of_run Tryd.func15 rfl (by show 2 ≤ 98; decide) ?_
  have hone := pV_one p
  refine RunF_sound tab_ok noX_local 100 [] _ _ rfl ?_ ?_
  · simp
  refine Run.callFn (r := triesV p) noX_local rfl rfl rfl rfl rfl rfl rfl tries_enters rfl (fun w' hA => tries_ok p w' (hP.agree hA)) ?_
  by_cases hv : validN p = 0
  rotate_left
  · rw [show triesV p = .tuple #[.int .i64 0, .int .i64 (validN p)] by unfold triesV; rw [if_neg hv]]
    have hz : listZ p f = (.tup [.v (.slice none 0 0), .v (.int .i64 (validN p))], []) := by unfold listZ; rw [if_pos hv]
    rw [hz]
    refine RunF_sound tab_ok noX_local 100 [true] _ _ rfl ?_ ?_
    · simp [hv]
    refine Run.retH (ρ := []) tab_ok Tryd.func15 rfl ?_ rfl trivial rfl
    simp
  obtain ⟨h4, h16, h64⟩ := valid_le hv
  rw [show triesV p = .tuple #[.int .i64 (allN tryN p.th), .int .i64 0] by unfold triesV; rw [if_pos hv]]
  have htry := all_try p.th
  have hn32 : allN tryN p.th ≤ 32 := by unfold evsP at h64; omega
  have hn64 : (allN tryN p.th : Int) < 64 := by omega
  by_cases hf : f >>> (allN tryN p.th) = 0#64
  rotate_left
  · have hz : listZ p f = (.tup [.v (.slice none 0 0), .v (.int .i64 4)], []) := by unfold listZ; rw [if_neg (by rw [hv]; simp), if_pos ⟨by omega, hf⟩]
    rw [hz]
    refine RunF_sound tab_ok noX_local 100 [false, true, true] _ _ rfl ?_ ?_
    · simp [hn64]
      exact hf
    refine Run.retH (ρ := []) tab_ok Tryd.func15 rfl ?_ rfl trivial rfl
    simp
  have hz : listZ p f = (.tup [vZ 0 (listF p.locs.length p.th f), .v (.int .i64 0)], vBk 0 (listF p.locs.length p.th f)) := by unfold listZ; rw [if_neg (by rw [hv]; simp), if_neg (fun h => h.2 hf)]
  rw [hz]
  have hTl : (listF p.locs.length p.th f).length ≤ 64 := by
    have h1 := listF_n p.locs.length p.th f (by omega) (fun j hj => by
      have h2 : (f >>> (allN tryN p.th)).getLsbD (j - allN tryN p.th) = false := by rw [hf]; simp
      rw [BitVec.getLsbD_ushiftRight, show allN tryN p.th + (j - allN tryN p.th) = j by omega] at h2
      exact h2)
    unfold evsP at h64; omega
  have hT0 : listF p.locs.length p.th f = initEv p.locs.length ++ (allEv f p.th 0 0).1 := rfl
  generalize listF p.locs.length p.th f = TOT at *
  refine RunF_sound tab_ok noX_local 100 [false, true, false] _ _ rfl ?_ ?_
  · simp [hn64]
    exact ⟨hf, rfl⟩
  suffices H : ∀ (d i : Nat), i + d = p.locs.length → ∀ σ, inT σ.t [(1, .v (.int .u64 (un f))), (2, .ptr 0 0), (8, .ptr 1 0), (34, .v (.int .i64 (p.locs.length : Int))), (35, .v (.int .i64 (i : Int)))] →
      inT σ.h ([(0, .cells 39 [.vals 5 (pV p)]), (1, .cells 22 [.one (vZ 2 (initEv i))])] ++ vBk 2 (initEv i)) → Run _ _ σ by
    exact H p.locs.length 0 (by omega) _ ⟨rfl, rfl, rfl, rfl, rfl, trivial⟩ ⟨rfl, rfl, trivial⟩
  intro d
  induction d with
  | succ d ih =>
    intro i hi σ ht hh
    refine Run.to ?_ ht hh (n' := 3)
    have hil : (initEv i).length = i := by unfold initEv; simp
    have hnx := ih (i + 1) (by omega)
    rw [initEv_succ] at hnx
    generalize initEv i = L at *
    clear ih
    rcases L with _ | ⟨e, L⟩
    · obtain rfl : 0 = i := hil
      refine RunF_sound tab_ok noX_local 100 [true] _ _ rfl ?_ ?_
      · simp [maxLen, fillL, repL, splice, Value.cells, Value.oneCell', okCell, evV, szBool]
        omega
      refine Run.toR [(2, 4)] (hnx ⟨[(1, .v (.int .u64 (un f))), (2, .ptr 0 0), (8, .ptr 1 0), (34, .v (.int .i64 (p.locs.length : Int))), (35, .v (.int .i64 (0 + 1 : Nat)))], [(0, .cells 39 [.vals 5 (pV p)]), (1, .cells 22 [.one (.sl 2 5 0 1)]), (2, .row 52 5 1 (evsR [⟨1, -1, 0, 0, false⟩]))], 3⟩
        ⟨rfl, rfl, rfl, rfl, rfl, trivial⟩ ⟨rfl, rfl, rfl, trivial⟩) ⟨rfl, rfl, rfl, rfl, i64_eq (wrap_succ (by omega)), trivial⟩ ⟨rfl, rfl, rfl, trivial⟩ rfl
    · obtain rfl : L.length + 1 = i := hil
      have e1 : vZ 2 (e :: L ++ [⟨1, -1, 0, ((L.length + 1 : Nat) : Int), false⟩]) = .sl 2 5 0 (L.length + 1 + 1) := by simp [vZ]
      have e2 : vBk 2 (e :: L ++ [⟨1, -1, 0, ((L.length + 1 : Nat) : Int), false⟩]) = [(2, .row 52 5 (L.length + 1 + 1) (evsR (e :: L) ++ evV ⟨1, -1, 0, ((L.length + 1 : Nat) : Int), false⟩))] := by
        rw [← evsR_app]; simp [vBk]
      rw [e1, e2] at hnx
      refine RunF_sound tab_ok noX_local 100 [true] _ _ rfl ?_ ?_
      · simp [maxLen, fillL, repL, splice, Value.cells, Value.oneCell', okCell, evV, szBool]
        omega
      refine Run.toR [(2, 4)] (hnx ⟨[(1, .v (.int .u64 (un f))), (2, .ptr 0 0), (8, .ptr 1 0), (34, .v (.int .i64 (p.locs.length : Int))), (35, .v (.int .i64 ((L.length + 1 + 1 : Nat) : Int)))], [(0, .cells 39 [.vals 5 (pV p)]), (1, .cells 22 [.one (.sl 2 5 0 (L.length + 1 + 1))]), (2, .row 52 5 (L.length + 1 + 1) (evsR (e :: L) ++ evV ⟨1, -1, 0, ((L.length + 1 : Nat) : Int), false⟩))], 3⟩
        ⟨rfl, rfl, rfl, rfl, rfl, trivial⟩ ⟨rfl, rfl, rfl, trivial⟩) ⟨rfl, rfl, rfl, rfl, i64_eq (wrap_succ (by omega)), trivial⟩ ⟨rfl, rfl, ?_, trivial⟩ rfl
      exact Eq.trans rfl (congrArg (fun r => some (Blk.row 52 5 (L.length + 1 + 1) (r ++ evV ⟨1, -1, 0, ((L.length + 1 : Nat) : Int), false⟩))) (take_all e L))
  | zero =>
  intro i hi σ ht hh
  refine Run.to ?_ ht hh (n' := 3)
  obtain rfl : i = p.locs.length := by omega
  clear ht hh hi
  generalize initEv p.locs.length = L0 at hT0 ⊢
  have hv0 : inT ([(0, Blk.cells 39 [.vals 5 (pV p)]), (1, .cells 22 [.one (vZ 2 L0)])] ++ vBk 2 L0) (vBk 2 L0) := by
    cases L0 with
    | nil => trivial
    | cons e L => exact ⟨rfl, trivial⟩
  suffices H : ∀ (d i : Nat) (L : List Ev) (t : Nat), i + d = p.th.length → TOT = L ++ (allEv f (p.th.drop i) i t).1 → t + allN tryN (p.th.drop i) ≤ 32 → ∀ σ, inT σ.t [(1, .v (.int .u64 (un f))), (8, .ptr 1 0), (10, .v (.int .i64 (t : Int))), (45, .v (.slice p.pt p.th.length p.ct)), (46, .v (.int .i64 (p.th.length : Int))), (47, .v (.int .i64 (i : Int)))] →
      inT σ.h ([(1, .cells 22 [.one (vZ 2 L)])] ++ vBk 2 L) → Run _ _ σ by
    refine RunF_sound tab_ok noX_local 100 [false] _ _ rfl ?_ ?_
    · simp
    exact H p.th.length 0 L0 0 (by omega) (by rw [List.drop_zero]; exact hT0) (by rw [List.drop_zero]; omega) _ ⟨rfl, rfl, rfl, rfl, rfl, rfl, trivial⟩ (inT_app ⟨rfl, trivial⟩ hv0)
  clear hT0 hv0
  intro d
  induction d with
  | zero =>
    intro i L t hi hT ht32 σ ht hh
    refine Run.to ?_ ht hh (n' := 3)
    rw [List.drop_of_length_le (by omega)] at hT
    have hT : TOT = L := by rw [hT]; simp [allEv]
    subst hT
    rcases TOT with _ | ⟨e, L⟩
    · refine RunF_sound tab_ok noX_local 100 [false] _ _ rfl ?_ ?_
      · simp; omega
      refine Run.retH (ρ := []) tab_ok Tryd.func15 rfl ?_ rfl trivial rfl
      simp
    · refine RunF_sound tab_ok noX_local 100 [false] _ _ rfl ?_ ?_
      · simp; omega
      refine Run.retH (ρ := [(0, 2)]) tab_ok Tryd.func15 rfl ?_ rfl ⟨rfl, trivial⟩ rfl
      simp
  | succ d ih =>
    intro i L t hi hT ht32 σ ht hh
    refine Run.to ?_ ht hh (n' := 3)
    have hix : i < p.th.length := by omega
    obtain ⟨hpt, q, c, hc, hq⟩ := hP.th i hix
    have hll := hP.lt2 p.th[i] (List.getElem_mem hix)
    have hdr : p.th.drop i = p.th[i] :: p.th.drop (i + 1) := List.drop_eq_getElem_cons hix
    rw [hdr] at hT ht32
    have hnx := ih (i + 1)
    generalize p.th[i] = l at *
    generalize hrest : p.th.drop (i + 1) = RT at *
    clear ih
    simp only [allEv, allN] at hT ht32
    have lc : L = [] ∨ ∃ e M, L = e :: M := by
      cases L with
      | nil => exact .inl rfl
      | cons e M => exact .inr ⟨e, M, rfl⟩
    suffices H2 : ∀ (m j : Nat) (L : List Ev) (t : Nat), j + m = l.length → TOT = L ++ ((thrEv f i (l.drop j) j t).1 ++ (allEv f RT (i + 1) (thrEv f i (l.drop j) j t).2).1) → t + (sumN tryN (l.drop j) + allN tryN RT) ≤ 32 → ∀ σ, inT σ.t [(1, .v (.int .u64 (un f))), (8, .ptr 1 0), (10, .v (.int .i64 (t : Int))), (45, .v (.slice p.pt p.th.length p.ct)), (46, .v (.int .i64 (p.th.length : Int))), (47, .v (.int .i64 (i : Int))), (11, .ptr 3 0), (52, .v (.slice q l.length c)), (53, .v (.int .i64 (l.length : Int))), (54, .v (.int .i64 (j : Int)))] → inT σ.h ([(1, .cells 22 [.one (vZ 2 L)]), (3, .cells 3 [.one (.v (.int .i64 (i : Int)))])] ++ vBk 2 L) → Run _ _ σ by
      have hH := fun σ => H2 l.length 0 L t (by omega) (by rw [List.drop_zero]; exact hT) (by rw [List.drop_zero]; exact ht32) σ
      rcases lc with h | ⟨e, M, h⟩
      · rw [h]
        refine RunF_sound tab_ok noX_local 100 [true] _ _ rfl ?_ ?_
        · simp [Value.oneCell', okCell, ofConst]
          exact ⟨hix, ⟨hpt, hix⟩, by rw [hc]; rfl⟩
        refine Run.toC (t' := [(1, .v (.int .u64 (un f))), (8, .ptr 1 0), (10, .v (.int .i64 (t : Int))), (45, .v (.slice p.pt p.th.length p.ct)), (46, .v (.int .i64 (p.th.length : Int))), (47, .v (.int .i64 (i : Int))), (11, .ptr 3 0), (52, .v (.slice q l.length c)), (53, .v (.int .i64 (l.length : Int))), (54, .v (.int .i64 (0 : Int)))]) (h' := ([(1, .cells 22 [.one (vZ 2 L)]), (3, .cells 3 [.one (.v (.int .i64 (i : Int)))])] ++ vBk 2 L)) (n' := 4) (hH _ ⟨rfl, rfl, rfl, rfl, rfl, rfl, rfl, rfl, rfl, rfl, trivial⟩ (inT_app ⟨rfl, rfl, trivial⟩ ?_)) ⟨inTC_same rfl, inTC_same rfl, inTC_same rfl, inTC_same rfl, inTC_same rfl, inTC_same rfl, inTC_same rfl, ⟨_, rfl, fun M => ?_⟩, ⟨_, rfl, fun M => ?_⟩, inTC_same rfl, trivial⟩ ?_
        · rw [h]; first | trivial | exact ⟨rfl, trivial⟩
        · simp only [conc, fnC_w0, Int.toNat_natCast, Nat.mul_one, hc]; rfl
        · simp only [conc, fnC_w0, Int.toNat_natCast, Nat.mul_one, hc]; rfl
        · rw [h]; first | exact ⟨rfl, rfl, trivial⟩ | exact ⟨rfl, rfl, rfl, trivial⟩
      · rw [h]
        refine RunF_sound tab_ok noX_local 100 [true] _ _ rfl ?_ ?_
        · simp [Value.oneCell', okCell, ofConst]
          exact ⟨hix, ⟨hpt, hix⟩, by rw [hc]; rfl⟩
        refine Run.toC (t' := [(1, .v (.int .u64 (un f))), (8, .ptr 1 0), (10, .v (.int .i64 (t : Int))), (45, .v (.slice p.pt p.th.length p.ct)), (46, .v (.int .i64 (p.th.length : Int))), (47, .v (.int .i64 (i : Int))), (11, .ptr 3 0), (52, .v (.slice q l.length c)), (53, .v (.int .i64 (l.length : Int))), (54, .v (.int .i64 (0 : Int)))]) (h' := ([(1, .cells 22 [.one (vZ 2 L)]), (3, .cells 3 [.one (.v (.int .i64 (i : Int)))])] ++ vBk 2 L)) (n' := 4) (hH _ ⟨rfl, rfl, rfl, rfl, rfl, rfl, rfl, rfl, rfl, rfl, trivial⟩ (inT_app ⟨rfl, rfl, trivial⟩ ?_)) ⟨inTC_same rfl, inTC_same rfl, inTC_same rfl, inTC_same rfl, inTC_same rfl, inTC_same rfl, inTC_same rfl, ⟨_, rfl, fun M => ?_⟩, ⟨_, rfl, fun M => ?_⟩, inTC_same rfl, trivial⟩ ?_
        · rw [h]; first | trivial | exact ⟨rfl, trivial⟩
        · simp only [conc, fnC_w0, Int.toNat_natCast, Nat.mul_one, hc]; rfl
        · simp only [conc, fnC_w0, Int.toNat_natCast, Nat.mul_one, hc]; rfl
        · rw [h]; first | exact ⟨rfl, rfl, trivial⟩ | exact ⟨rfl, rfl, rfl, trivial⟩
    clear lc ht hh hT ht32
    intro m
    induction m with
    | zero =>
      intro j L t hj hT ht32 σ ht hh
      refine Run.to ?_ ht hh (n' := 4)
      rw [List.drop_of_length_le (show l.length ≤ j by omega)] at hT ht32
      simp only [thrEv, sumN, List.nil_append, Nat.zero_add] at hT ht32
      have hvb : inT ([(1, .cells 22 [.one (vZ 2 L)]), (3, .cells 3 [.one (.v (.int .i64 (i : Int)))])] ++ vBk 2 L) (vBk 2 L) := by
        cases L with
        | nil => trivial
        | cons e L => exact ⟨rfl, trivial⟩
      refine RunF_sound tab_ok noX_local 100 [false] _ _ rfl ?_ ?_
      · simp; omega
      exact hnx L t (by omega) hT ht32 _ ⟨rfl, rfl, rfl, rfl, rfl, i64_eq (wrap_succ (by omega)), trivial⟩ (inT_app ⟨rfl, trivial⟩ hvb)
    | succ m ihm =>
      intro j L t hj hT ht32 σ ht hh
      refine Run.to ?_ ht hh (n' := 4)
      have hjl : j < l.length := by omega
      have hdj : l.drop j = l[j] :: l.drop (j + 1) := List.drop_eq_getElem_cons hjl
      rw [hdj] at hT ht32
      simp only [thrEv, sumN] at hT ht32
      have hnxm := ihm (j + 1)
      have hqp := (hq j hjl).1
      have hqe := hq.ext j hjl
      have hqs := hq.some j hjl
      have ho1 := opV_one l[j]
      generalize l[j] = o at *
      generalize hrest2 : l.drop (j + 1) = rl at *
      clear ihm hdj
      have hLl : L.length ≤ 64 := by have := congrArg List.length hT; simp only [List.length_append] at this; omega
      have htn := (opEv_n f i j o t).2
      have hnext : ∀ L' t', L' = L ++ (opEv f i j o t).1 → t' = (opEv f i j o t).2 → ∀ σ, inT σ.t [(1, .v (.int .u64 (un f))), (8, .ptr 1 0), (10, .v (.int .i64 (t' : Int))), (45, .v (.slice p.pt p.th.length p.ct)), (46, .v (.int .i64 (p.th.length : Int))), (47, .v (.int .i64 (i : Int))), (11, .ptr 3 0), (52, .v (.slice q l.length c)), (53, .v (.int .i64 (l.length : Int))), (54, .v (.int .i64 (((j + 1 : Nat) : Int) : Int)))] → inT σ.h ([(1, .cells 22 [.one (vZ 2 L')]), (3, .cells 3 [.one (.v (.int .i64 (i : Int)))])] ++ vBk 2 L') → Run _ _ σ := fun L' t' e1 e2 => by
        subst e1; subst e2
        exact hnxm _ _ (by omega) (by rw [hT]; simp only [List.append_assoc]) (by omega)
      clear hnxm hnx
      have lc : L = [] ∨ ∃ e M, L = e :: M := by
        cases L with
        | nil => exact .inl rfl
        | cons e M => exact .inr ⟨e, M, rfl⟩
      suffices H4 : ∀ σ, inT σ.t [(1, .v (.int .u64 (un f))), (8, .ptr 1 0), (10, .v (.int .i64 (t : Int))), (45, .v (.slice p.pt p.th.length p.ct)), (46, .v (.int .i64 (p.th.length : Int))), (47, .v (.int .i64 (i : Int))), (11, .ptr 3 0), (52, .v (.slice q l.length c)), (53, .v (.int .i64 (l.length : Int))), (54, .v (.int .i64 (j : Int))), (15, .fn 35 [.ptr 3 0, .ptr 4 0, .ptr 5 0, .ptr 1 0]), (61, .v (.int .i64 o.kind)), (62, .v (.bool (o.kind == 3)))] → inT σ.h (putH (i : Int) (j : Int) o L) → Run _ _ σ by
        rcases lc with h | ⟨e, M, h⟩
        · rw [h]
          refine RunF_sound tab_ok noX_local 100 [true] _ _ rfl ?_ ?_
          · simp [hqe, ho1, segsVals, okCell]
            exact ⟨hjl, ⟨hqp, hjl⟩, hqs, rfl⟩
          refine Run.toC (t' := [(1, .v (.int .u64 (un f))), (8, .ptr 1 0), (10, .v (.int .i64 (t : Int))), (45, .v (.slice p.pt p.th.length p.ct)), (46, .v (.int .i64 (p.th.length : Int))), (47, .v (.int .i64 (i : Int))), (11, .ptr 3 0), (52, .v (.slice q l.length c)), (53, .v (.int .i64 (l.length : Int))), (54, .v (.int .i64 (j : Int))), (15, .fn 35 [.ptr 3 0, .ptr 4 0, .ptr 5 0, .ptr 1 0]), (61, .v (.int .i64 o.kind)), (62, .v (.bool (o.kind == 3)))]) (h' := putH (i : Int) (j : Int) o L) (n' := 6) (H4 _ ⟨rfl, rfl, rfl, rfl, rfl, rfl, rfl, rfl, rfl, rfl, rfl, rfl, rfl, trivial⟩ ?_) ⟨inTC_same rfl, inTC_same rfl, inTC_same rfl, inTC_same rfl, inTC_same rfl, inTC_same rfl, inTC_same rfl, inTC_same rfl, inTC_same rfl, inTC_same rfl, inTC_same rfl, ⟨_, rfl, fun M => ?_⟩, ⟨_, rfl, fun M => ?_⟩, trivial⟩ ?_
          · rw [h]; first | exact ⟨rfl, rfl, rfl, rfl, trivial⟩ | exact ⟨rfl, rfl, rfl, rfl, rfl, trivial⟩
          · simp only [conc, fnC_w0, Int.toNat_natCast, hqe]; rfl
          · simp only [conc, fnC_w0, Int.toNat_natCast, hqe]; rfl
          · have e5 : some (Blk.cells 60 [.vals 5 (extCells w ((q.getD default).add ((j : Int).toNat * 5)) 0 5)]) = some (Blk.cells 60 [.vals 5 (opV o)]) := by rw [Int.toNat_natCast, hqe]
            rw [h]; first | exact ⟨rfl, rfl, rfl, e5, trivial⟩ | exact ⟨rfl, rfl, rfl, e5, rfl, trivial⟩
        · rw [h]
          refine RunF_sound tab_ok noX_local 100 [true] _ _ rfl ?_ ?_
          · simp [hqe, ho1, segsVals, okCell]
            exact ⟨hjl, ⟨hqp, hjl⟩, hqs, rfl⟩
          refine Run.toC (t' := [(1, .v (.int .u64 (un f))), (8, .ptr 1 0), (10, .v (.int .i64 (t : Int))), (45, .v (.slice p.pt p.th.length p.ct)), (46, .v (.int .i64 (p.th.length : Int))), (47, .v (.int .i64 (i : Int))), (11, .ptr 3 0), (52, .v (.slice q l.length c)), (53, .v (.int .i64 (l.length : Int))), (54, .v (.int .i64 (j : Int))), (15, .fn 35 [.ptr 3 0, .ptr 4 0, .ptr 5 0, .ptr 1 0]), (61, .v (.int .i64 o.kind)), (62, .v (.bool (o.kind == 3)))]) (h' := putH (i : Int) (j : Int) o L) (n' := 6) (H4 _ ⟨rfl, rfl, rfl, rfl, rfl, rfl, rfl, rfl, rfl, rfl, rfl, rfl, rfl, trivial⟩ ?_) ⟨inTC_same rfl, inTC_same rfl, inTC_same rfl, inTC_same rfl, inTC_same rfl, inTC_same rfl, inTC_same rfl, inTC_same rfl, inTC_same rfl, inTC_same rfl, inTC_same rfl, ⟨_, rfl, fun M => ?_⟩, ⟨_, rfl, fun M => ?_⟩, trivial⟩ ?_
          · rw [h]; first | exact ⟨rfl, rfl, rfl, rfl, trivial⟩ | exact ⟨rfl, rfl, rfl, rfl, rfl, trivial⟩
          · simp only [conc, fnC_w0, Int.toNat_natCast, hqe]; rfl
          · simp only [conc, fnC_w0, Int.toNat_natCast, hqe]; rfl
          · have e5 : some (Blk.cells 60 [.vals 5 (extCells w ((q.getD default).add ((j : Int).toNat * 5)) 0 5)]) = some (Blk.cells 60 [.vals 5 (opV o)]) := by rw [Int.toNat_natCast, hqe]
            rw [h]; first | exact ⟨rfl, rfl, rfl, e5, trivial⟩ | exact ⟨rfl, rfl, rfl, e5, rfl, trivial⟩
      clear lc ht hh
      intro σ ht hh
      refine Run.to ?_ ht hh (n' := 6)
      clear ht hh
      by_cases k3 : o.kind = 3
      · have hop : opEv f i j o t = ([⟨3, (i : Int), (j : Int), o.loc, false⟩], t) := by simp [opEv, k3]
        rw [hop] at hnext
        refine RunF_sound tab_ok noX_local 200 [true] _ _ rfl ?_ ?_
        · simp [k3]
        refine Run.to (t' := [(1, .v (.int .u64 (un f))), (8, .ptr 1 0), (10, .v (.int .i64 (t : Int))), (45, .v (.slice p.pt p.th.length p.ct)), (46, .v (.int .i64 (p.th.length : Int))), (47, .v (.int .i64 (i : Int))), (11, .ptr 3 0), (52, .v (.slice q l.length c)), (53, .v (.int .i64 (l.length : Int))), (54, .v (.int .i64 (j : Int))), (15, .fn 35 [.ptr 3 0, .ptr 4 0, .ptr 5 0, .ptr 1 0]), (64, .fn 35 [.ptr 3 0, .ptr 4 0, .ptr 5 0, .ptr 1 0])]) (h' := putH (i : Int) (j : Int) o (L)) (n' := 6) ?_ ⟨rfl, rfl, rfl, rfl, rfl, rfl, rfl, rfl, rfl, rfl, rfl, rfl, trivial⟩ (putH_self _ _ _ _)
        refine put_call (t' := [(1, .v (.int .u64 (un f))), (8, .ptr 1 0), (10, .v (.int .i64 (t : Int))), (45, .v (.slice p.pt p.th.length p.ct)), (46, .v (.int .i64 (p.th.length : Int))), (47, .v (.int .i64 (i : Int))), (11, .ptr 3 0), (52, .v (.slice q l.length c)), (53, .v (.int .i64 (l.length : Int))), (54, .v (.int .i64 (j : Int))), (15, .fn 35 [.ptr 3 0, .ptr 4 0, .ptr 5 0, .ptr 1 0])]) rfl noX_local 3 false (i : Int) (j : Int) o (L) (by first | omega | (simp; omega)) rfl rfl rfl rfl rfl rfl rfl ⟨rfl, rfl, rfl, rfl, rfl, rfl, rfl, rfl, rfl, rfl, rfl, trivial⟩ rfl ⟨rfl, rfl, rfl, rfl, rfl, rfl, rfl, rfl, rfl, rfl, rfl, trivial⟩ ?_
        refine RunF_sound tab_ok noX_local 200 [] _ _ rfl ?_ ?_
        · simp
        exact hnext (L ++ [evPut 3 (i : Int) (j : Int) o false]) (t) (by simp [evPut]) rfl _ ⟨rfl, rfl, rfl, rfl, rfl, rfl, rfl, rfl, rfl, i64_eq (wrap_succ (by omega)), trivial⟩ (putH_H2 _ _ _ _)
      by_cases k4 : o.kind = 4
      · have hop : opEv f i j o t = ([⟨2, (i : Int), (j : Int), o.loc, false⟩], t) := by simp [opEv, k4]
        rw [hop] at hnext
        refine RunF_sound tab_ok noX_local 200 [false, true, true] _ _ rfl ?_ ?_
        · simp [k4]
        refine Run.to (t' := [(1, .v (.int .u64 (un f))), (8, .ptr 1 0), (10, .v (.int .i64 (t : Int))), (45, .v (.slice p.pt p.th.length p.ct)), (46, .v (.int .i64 (p.th.length : Int))), (47, .v (.int .i64 (i : Int))), (11, .ptr 3 0), (52, .v (.slice q l.length c)), (53, .v (.int .i64 (l.length : Int))), (54, .v (.int .i64 (j : Int))), (15, .fn 35 [.ptr 3 0, .ptr 4 0, .ptr 5 0, .ptr 1 0]), (69, .fn 35 [.ptr 3 0, .ptr 4 0, .ptr 5 0, .ptr 1 0])]) (h' := putH (i : Int) (j : Int) o (L)) (n' := 6) ?_ ⟨rfl, rfl, rfl, rfl, rfl, rfl, rfl, rfl, rfl, rfl, rfl, rfl, trivial⟩ (putH_self _ _ _ _)
        refine put_call (t' := [(1, .v (.int .u64 (un f))), (8, .ptr 1 0), (10, .v (.int .i64 (t : Int))), (45, .v (.slice p.pt p.th.length p.ct)), (46, .v (.int .i64 (p.th.length : Int))), (47, .v (.int .i64 (i : Int))), (11, .ptr 3 0), (52, .v (.slice q l.length c)), (53, .v (.int .i64 (l.length : Int))), (54, .v (.int .i64 (j : Int))), (15, .fn 35 [.ptr 3 0, .ptr 4 0, .ptr 5 0, .ptr 1 0])]) rfl noX_local 2 false (i : Int) (j : Int) o (L) (by first | omega | (simp; omega)) rfl rfl rfl rfl rfl rfl rfl ⟨rfl, rfl, rfl, rfl, rfl, rfl, rfl, rfl, rfl, rfl, rfl, trivial⟩ rfl ⟨rfl, rfl, rfl, rfl, rfl, rfl, rfl, rfl, rfl, rfl, rfl, trivial⟩ ?_
        refine RunF_sound tab_ok noX_local 200 [] _ _ rfl ?_ ?_
        · simp
        exact hnext (L ++ [evPut 2 (i : Int) (j : Int) o false]) (t) (by simp [evPut]) rfl _ ⟨rfl, rfl, rfl, rfl, rfl, rfl, rfl, rfl, rfl, i64_eq (wrap_succ (by omega)), trivial⟩ (putH_H2 _ _ _ _)
      by_cases k5 : o.kind = 5
      · have hop : opEv f i j o t = ([⟨2, (i : Int), (j : Int), o.loc, false⟩], t) := by simp [opEv, k5]
        rw [hop] at hnext
        refine RunF_sound tab_ok noX_local 200 [false, false, true] _ _ rfl ?_ ?_
        · simp [k5]
        refine Run.to (t' := [(1, .v (.int .u64 (un f))), (8, .ptr 1 0), (10, .v (.int .i64 (t : Int))), (45, .v (.slice p.pt p.th.length p.ct)), (46, .v (.int .i64 (p.th.length : Int))), (47, .v (.int .i64 (i : Int))), (11, .ptr 3 0), (52, .v (.slice q l.length c)), (53, .v (.int .i64 (l.length : Int))), (54, .v (.int .i64 (j : Int))), (15, .fn 35 [.ptr 3 0, .ptr 4 0, .ptr 5 0, .ptr 1 0]), (69, .fn 35 [.ptr 3 0, .ptr 4 0, .ptr 5 0, .ptr 1 0])]) (h' := putH (i : Int) (j : Int) o (L)) (n' := 6) ?_ ⟨rfl, rfl, rfl, rfl, rfl, rfl, rfl, rfl, rfl, rfl, rfl, rfl, trivial⟩ (putH_self _ _ _ _)
        refine put_call (t' := [(1, .v (.int .u64 (un f))), (8, .ptr 1 0), (10, .v (.int .i64 (t : Int))), (45, .v (.slice p.pt p.th.length p.ct)), (46, .v (.int .i64 (p.th.length : Int))), (47, .v (.int .i64 (i : Int))), (11, .ptr 3 0), (52, .v (.slice q l.length c)), (53, .v (.int .i64 (l.length : Int))), (54, .v (.int .i64 (j : Int))), (15, .fn 35 [.ptr 3 0, .ptr 4 0, .ptr 5 0, .ptr 1 0])]) rfl noX_local 2 false (i : Int) (j : Int) o (L) (by first | omega | (simp; omega)) rfl rfl rfl rfl rfl rfl rfl ⟨rfl, rfl, rfl, rfl, rfl, rfl, rfl, rfl, rfl, rfl, rfl, trivial⟩ rfl ⟨rfl, rfl, rfl, rfl, rfl, rfl, rfl, rfl, rfl, rfl, rfl, trivial⟩ ?_
        refine RunF_sound tab_ok noX_local 200 [] _ _ rfl ?_ ?_
        · simp
        exact hnext (L ++ [evPut 2 (i : Int) (j : Int) o false]) (t) (by simp [evPut]) rfl _ ⟨rfl, rfl, rfl, rfl, rfl, rfl, rfl, rfl, rfl, i64_eq (wrap_succ (by omega)), trivial⟩ (putH_H2 _ _ _ _)
      by_cases k6 : o.kind = 6
      · have hop : opEv f i j o t = ([⟨4, (i : Int), (j : Int), -1, false⟩], t) := by simp [opEv, k6]
        rw [hop] at hnext
        refine RunF_sound tab_ok noX_local 200 [false, false, false, true] _ _ rfl ?_ ?_
        · simp [k6]
        refine Run.to (t' := [(1, .v (.int .u64 (un f))), (8, .ptr 1 0), (10, .v (.int .i64 (t : Int))), (45, .v (.slice p.pt p.th.length p.ct)), (46, .v (.int .i64 (p.th.length : Int))), (47, .v (.int .i64 (i : Int))), (11, .ptr 3 0), (52, .v (.slice q l.length c)), (53, .v (.int .i64 (l.length : Int))), (54, .v (.int .i64 (j : Int))), (15, .fn 35 [.ptr 3 0, .ptr 4 0, .ptr 5 0, .ptr 1 0]), (73, .fn 35 [.ptr 3 0, .ptr 4 0, .ptr 5 0, .ptr 1 0])]) (h' := putH (i : Int) (j : Int) o (L)) (n' := 6) ?_ ⟨rfl, rfl, rfl, rfl, rfl, rfl, rfl, rfl, rfl, rfl, rfl, rfl, trivial⟩ (putH_self _ _ _ _)
        refine put_call (t' := [(1, .v (.int .u64 (un f))), (8, .ptr 1 0), (10, .v (.int .i64 (t : Int))), (45, .v (.slice p.pt p.th.length p.ct)), (46, .v (.int .i64 (p.th.length : Int))), (47, .v (.int .i64 (i : Int))), (11, .ptr 3 0), (52, .v (.slice q l.length c)), (53, .v (.int .i64 (l.length : Int))), (54, .v (.int .i64 (j : Int))), (15, .fn 35 [.ptr 3 0, .ptr 4 0, .ptr 5 0, .ptr 1 0])]) rfl noX_local 4 false (i : Int) (j : Int) o (L) (by first | omega | (simp; omega)) rfl rfl rfl rfl rfl rfl rfl ⟨rfl, rfl, rfl, rfl, rfl, rfl, rfl, rfl, rfl, rfl, rfl, trivial⟩ rfl ⟨rfl, rfl, rfl, rfl, rfl, rfl, rfl, rfl, rfl, rfl, rfl, trivial⟩ ?_
        refine RunF_sound tab_ok noX_local 200 [] _ _ rfl ?_ ?_
        · simp
        exact hnext (L ++ [evPut 4 (i : Int) (j : Int) o false]) (t) (by simp [evPut]) rfl _ ⟨rfl, rfl, rfl, rfl, rfl, rfl, rfl, rfl, rfl, i64_eq (wrap_succ (by omega)), trivial⟩ (putH_H2 _ _ _ _)
      by_cases k7 : o.kind = 7
      · have hop : opEv f i j o t = ([⟨3, (i : Int), (j : Int), o.loc, true⟩, ⟨2, (i : Int), (j : Int), o.loc, true⟩], t) := by simp [opEv, k7]
        rw [hop] at hnext
        refine RunF_sound tab_ok noX_local 200 [false, false, false, false, true, true] _ _ rfl ?_ ?_
        · simp [k7]
        refine Run.to (t' := [(1, .v (.int .u64 (un f))), (8, .ptr 1 0), (10, .v (.int .i64 (t : Int))), (45, .v (.slice p.pt p.th.length p.ct)), (46, .v (.int .i64 (p.th.length : Int))), (47, .v (.int .i64 (i : Int))), (11, .ptr 3 0), (52, .v (.slice q l.length c)), (53, .v (.int .i64 (l.length : Int))), (54, .v (.int .i64 (j : Int))), (15, .fn 35 [.ptr 3 0, .ptr 4 0, .ptr 5 0, .ptr 1 0]), (78, .fn 35 [.ptr 3 0, .ptr 4 0, .ptr 5 0, .ptr 1 0])]) (h' := putH (i : Int) (j : Int) o (L)) (n' := 6) ?_ ⟨rfl, rfl, rfl, rfl, rfl, rfl, rfl, rfl, rfl, rfl, rfl, rfl, trivial⟩ (putH_self _ _ _ _)
        refine put_call (t' := [(1, .v (.int .u64 (un f))), (8, .ptr 1 0), (10, .v (.int .i64 (t : Int))), (45, .v (.slice p.pt p.th.length p.ct)), (46, .v (.int .i64 (p.th.length : Int))), (47, .v (.int .i64 (i : Int))), (11, .ptr 3 0), (52, .v (.slice q l.length c)), (53, .v (.int .i64 (l.length : Int))), (54, .v (.int .i64 (j : Int))), (15, .fn 35 [.ptr 3 0, .ptr 4 0, .ptr 5 0, .ptr 1 0])]) rfl noX_local 3 true (i : Int) (j : Int) o (L) (by first | omega | (simp; omega)) rfl rfl rfl rfl rfl rfl rfl ⟨rfl, rfl, rfl, rfl, rfl, rfl, rfl, rfl, rfl, rfl, rfl, trivial⟩ rfl ⟨rfl, rfl, rfl, rfl, rfl, rfl, rfl, rfl, rfl, rfl, rfl, trivial⟩ ?_
        refine RunF_sound tab_ok noX_local 200 [] _ _ rfl ?_ ?_
        · simp
        refine Run.to (t' := [(1, .v (.int .u64 (un f))), (8, .ptr 1 0), (10, .v (.int .i64 (t : Int))), (45, .v (.slice p.pt p.th.length p.ct)), (46, .v (.int .i64 (p.th.length : Int))), (47, .v (.int .i64 (i : Int))), (11, .ptr 3 0), (52, .v (.slice q l.length c)), (53, .v (.int .i64 (l.length : Int))), (54, .v (.int .i64 (j : Int))), (15, .fn 35 [.ptr 3 0, .ptr 4 0, .ptr 5 0, .ptr 1 0]), (80, .fn 35 [.ptr 3 0, .ptr 4 0, .ptr 5 0, .ptr 1 0])]) (h' := putH (i : Int) (j : Int) o (L ++ [evPut 3 (i : Int) (j : Int) o true])) (n' := 6) ?_ ⟨rfl, rfl, rfl, rfl, rfl, rfl, rfl, rfl, rfl, rfl, rfl, rfl, trivial⟩ (putH_self _ _ _ _)
        refine put_call (t' := [(1, .v (.int .u64 (un f))), (8, .ptr 1 0), (10, .v (.int .i64 (t : Int))), (45, .v (.slice p.pt p.th.length p.ct)), (46, .v (.int .i64 (p.th.length : Int))), (47, .v (.int .i64 (i : Int))), (11, .ptr 3 0), (52, .v (.slice q l.length c)), (53, .v (.int .i64 (l.length : Int))), (54, .v (.int .i64 (j : Int))), (15, .fn 35 [.ptr 3 0, .ptr 4 0, .ptr 5 0, .ptr 1 0])]) rfl noX_local 2 true (i : Int) (j : Int) o (L ++ [evPut 3 (i : Int) (j : Int) o true]) (by first | omega | (simp; omega)) rfl rfl rfl rfl rfl rfl rfl ⟨rfl, rfl, rfl, rfl, rfl, rfl, rfl, rfl, rfl, rfl, rfl, trivial⟩ rfl ⟨rfl, rfl, rfl, rfl, rfl, rfl, rfl, rfl, rfl, rfl, rfl, trivial⟩ ?_
        refine RunF_sound tab_ok noX_local 200 [] _ _ rfl ?_ ?_
        · simp
        exact hnext (L ++ [evPut 3 (i : Int) (j : Int) o true] ++ [evPut 2 (i : Int) (j : Int) o true]) (t) (by simp [evPut]) rfl _ ⟨rfl, rfl, rfl, rfl, rfl, rfl, rfl, rfl, rfl, i64_eq (wrap_succ (by omega)), trivial⟩ (putH_H2 _ _ _ _)
      by_cases k9 : o.kind = 9
      · have hop : opEv f i j o t = ([⟨3, (i : Int), (j : Int), o.loc, true⟩, ⟨2, (i : Int), (j : Int), o.loc, true⟩], t) := by simp [opEv, k9]
        rw [hop] at hnext
        refine RunF_sound tab_ok noX_local 200 [false, false, false, false, false, true] _ _ rfl ?_ ?_
        · simp [k9]
        refine Run.to (t' := [(1, .v (.int .u64 (un f))), (8, .ptr 1 0), (10, .v (.int .i64 (t : Int))), (45, .v (.slice p.pt p.th.length p.ct)), (46, .v (.int .i64 (p.th.length : Int))), (47, .v (.int .i64 (i : Int))), (11, .ptr 3 0), (52, .v (.slice q l.length c)), (53, .v (.int .i64 (l.length : Int))), (54, .v (.int .i64 (j : Int))), (15, .fn 35 [.ptr 3 0, .ptr 4 0, .ptr 5 0, .ptr 1 0]), (78, .fn 35 [.ptr 3 0, .ptr 4 0, .ptr 5 0, .ptr 1 0])]) (h' := putH (i : Int) (j : Int) o (L)) (n' := 6) ?_ ⟨rfl, rfl, rfl, rfl, rfl, rfl, rfl, rfl, rfl, rfl, rfl, rfl, trivial⟩ (putH_self _ _ _ _)
        refine put_call (t' := [(1, .v (.int .u64 (un f))), (8, .ptr 1 0), (10, .v (.int .i64 (t : Int))), (45, .v (.slice p.pt p.th.length p.ct)), (46, .v (.int .i64 (p.th.length : Int))), (47, .v (.int .i64 (i : Int))), (11, .ptr 3 0), (52, .v (.slice q l.length c)), (53, .v (.int .i64 (l.length : Int))), (54, .v (.int .i64 (j : Int))), (15, .fn 35 [.ptr 3 0, .ptr 4 0, .ptr 5 0, .ptr 1 0])]) rfl noX_local 3 true (i : Int) (j : Int) o (L) (by first | omega | (simp; omega)) rfl rfl rfl rfl rfl rfl rfl ⟨rfl, rfl, rfl, rfl, rfl, rfl, rfl, rfl, rfl, rfl, rfl, trivial⟩ rfl ⟨rfl, rfl, rfl, rfl, rfl, rfl, rfl, rfl, rfl, rfl, rfl, trivial⟩ ?_
        refine RunF_sound tab_ok noX_local 200 [] _ _ rfl ?_ ?_
        · simp
        refine Run.to (t' := [(1, .v (.int .u64 (un f))), (8, .ptr 1 0), (10, .v (.int .i64 (t : Int))), (45, .v (.slice p.pt p.th.length p.ct)), (46, .v (.int .i64 (p.th.length : Int))), (47, .v (.int .i64 (i : Int))), (11, .ptr 3 0), (52, .v (.slice q l.length c)), (53, .v (.int .i64 (l.length : Int))), (54, .v (.int .i64 (j : Int))), (15, .fn 35 [.ptr 3 0, .ptr 4 0, .ptr 5 0, .ptr 1 0]), (80, .fn 35 [.ptr 3 0, .ptr 4 0, .ptr 5 0, .ptr 1 0])]) (h' := putH (i : Int) (j : Int) o (L ++ [evPut 3 (i : Int) (j : Int) o true])) (n' := 6) ?_ ⟨rfl, rfl, rfl, rfl, rfl, rfl, rfl, rfl, rfl, rfl, rfl, rfl, trivial⟩ (putH_self _ _ _ _)
        refine put_call (t' := [(1, .v (.int .u64 (un f))), (8, .ptr 1 0), (10, .v (.int .i64 (t : Int))), (45, .v (.slice p.pt p.th.length p.ct)), (46, .v (.int .i64 (p.th.length : Int))), (47, .v (.int .i64 (i : Int))), (11, .ptr 3 0), (52, .v (.slice q l.length c)), (53, .v (.int .i64 (l.length : Int))), (54, .v (.int .i64 (j : Int))), (15, .fn 35 [.ptr 3 0, .ptr 4 0, .ptr 5 0, .ptr 1 0])]) rfl noX_local 2 true (i : Int) (j : Int) o (L ++ [evPut 3 (i : Int) (j : Int) o true]) (by first | omega | (simp; omega)) rfl rfl rfl rfl rfl rfl rfl ⟨rfl, rfl, rfl, rfl, rfl, rfl, rfl, rfl, rfl, rfl, rfl, trivial⟩ rfl ⟨rfl, rfl, rfl, rfl, rfl, rfl, rfl, rfl, rfl, rfl, rfl, trivial⟩ ?_
        refine RunF_sound tab_ok noX_local 200 [] _ _ rfl ?_ ?_
        · simp
        exact hnext (L ++ [evPut 3 (i : Int) (j : Int) o true] ++ [evPut 2 (i : Int) (j : Int) o true]) (t) (by simp [evPut]) rfl _ ⟨rfl, rfl, rfl, rfl, rfl, rfl, rfl, rfl, rfl, i64_eq (wrap_succ (by omega)), trivial⟩ (putH_H2 _ _ _ _)
      by_cases k8 : o.kind = 8
      · have ht1 : tryN o = 1 := by unfold tryN; rw [if_pos k8]
        rw [ht1] at ht32
        refine RunF_sound tab_ok noX_local 200 [false, false, false, false, false, false, true] _ _ rfl ?_ ?_
        · simp [k8]
        refine Run.to (t' := [(1, .v (.int .u64 (un f))), (8, .ptr 1 0), (10, .v (.int .i64 (t : Int))), (45, .v (.slice p.pt p.th.length p.ct)), (46, .v (.int .i64 (p.th.length : Int))), (47, .v (.int .i64 (i : Int))), (11, .ptr 3 0), (52, .v (.slice q l.length c)), (53, .v (.int .i64 (l.length : Int))), (54, .v (.int .i64 (j : Int))), (15, .fn 35 [.ptr 3 0, .ptr 4 0, .ptr 5 0, .ptr 1 0]), (84, .fn 35 [.ptr 3 0, .ptr 4 0, .ptr 5 0, .ptr 1 0])]) (h' := putH (i : Int) (j : Int) o (L)) (n' := 6) ?_ ⟨rfl, rfl, rfl, rfl, rfl, rfl, rfl, rfl, rfl, rfl, rfl, rfl, trivial⟩ (putH_self _ _ _ _)
        refine put_call (t' := [(1, .v (.int .u64 (un f))), (8, .ptr 1 0), (10, .v (.int .i64 (t : Int))), (45, .v (.slice p.pt p.th.length p.ct)), (46, .v (.int .i64 (p.th.length : Int))), (47, .v (.int .i64 (i : Int))), (11, .ptr 3 0), (52, .v (.slice q l.length c)), (53, .v (.int .i64 (l.length : Int))), (54, .v (.int .i64 (j : Int))), (15, .fn 35 [.ptr 3 0, .ptr 4 0, .ptr 5 0, .ptr 1 0])]) rfl noX_local 3 true (i : Int) (j : Int) o (L) (by first | omega | (simp; omega)) rfl rfl rfl rfl rfl rfl rfl ⟨rfl, rfl, rfl, rfl, rfl, rfl, rfl, rfl, rfl, rfl, rfl, trivial⟩ rfl ⟨rfl, rfl, rfl, rfl, rfl, rfl, rfl, rfl, rfl, rfl, rfl, trivial⟩ ?_
        by_cases hb : f.getLsbD t = true
        · have hop : opEv f i j o t = ([⟨3, (i : Int), (j : Int), o.loc, true⟩], t + 1) := by simp [opEv, k8, hb]
          rw [hop] at hnext
          refine RunF_sound tab_ok noX_local 200 [false] _ _ rfl ?_ ?_
          · simp [bandb', hb]
          exact hnext (L ++ [evPut 3 (i : Int) (j : Int) o true]) (t + 1) (by simp [evPut]) rfl _ ⟨rfl, rfl, i64_eq (wrap_succ (by omega)), rfl, rfl, rfl, rfl, rfl, rfl, i64_eq (wrap_succ (by omega)), trivial⟩ (putH_H2 _ _ _ _)
        · have hop : opEv f i j o t = ([⟨3, (i : Int), (j : Int), o.loc, true⟩, ⟨2, (i : Int), (j : Int), o.loc, true⟩], t + 1) := by simp [opEv, k8, hb]
          rw [hop] at hnext
          refine RunF_sound tab_ok noX_local 200 [true] _ _ rfl ?_ ?_
          · simp [bandb', hb]
          refine Run.to (t' := [(1, .v (.int .u64 (un f))), (8, .ptr 1 0), (10, .v (.int .i64 (t : Int))), (45, .v (.slice p.pt p.th.length p.ct)), (46, .v (.int .i64 (p.th.length : Int))), (47, .v (.int .i64 (i : Int))), (11, .ptr 3 0), (52, .v (.slice q l.length c)), (53, .v (.int .i64 (l.length : Int))), (54, .v (.int .i64 (j : Int))), (15, .fn 35 [.ptr 3 0, .ptr 4 0, .ptr 5 0, .ptr 1 0]), (91, .fn 35 [.ptr 3 0, .ptr 4 0, .ptr 5 0, .ptr 1 0])]) (h' := putH (i : Int) (j : Int) o (L ++ [evPut 3 (i : Int) (j : Int) o true])) (n' := 6) ?_ ⟨rfl, rfl, rfl, rfl, rfl, rfl, rfl, rfl, rfl, rfl, rfl, rfl, trivial⟩ (putH_self _ _ _ _)
          refine put_call (t' := [(1, .v (.int .u64 (un f))), (8, .ptr 1 0), (10, .v (.int .i64 (t : Int))), (45, .v (.slice p.pt p.th.length p.ct)), (46, .v (.int .i64 (p.th.length : Int))), (47, .v (.int .i64 (i : Int))), (11, .ptr 3 0), (52, .v (.slice q l.length c)), (53, .v (.int .i64 (l.length : Int))), (54, .v (.int .i64 (j : Int))), (15, .fn 35 [.ptr 3 0, .ptr 4 0, .ptr 5 0, .ptr 1 0])]) rfl noX_local 2 true (i : Int) (j : Int) o (L ++ [evPut 3 (i : Int) (j : Int) o true]) (by first | omega | (simp; omega)) rfl rfl rfl rfl rfl rfl rfl ⟨rfl, rfl, rfl, rfl, rfl, rfl, rfl, rfl, rfl, rfl, rfl, trivial⟩ rfl ⟨rfl, rfl, rfl, rfl, rfl, rfl, rfl, rfl, rfl, rfl, rfl, trivial⟩ ?_
          refine RunF_sound tab_ok noX_local 200 [] _ _ rfl ?_ ?_
          · simp
          exact hnext (L ++ [evPut 3 (i : Int) (j : Int) o true] ++ [evPut 2 (i : Int) (j : Int) o true]) (t + 1) (by simp [evPut]) rfl _ ⟨rfl, rfl, i64_eq (wrap_succ (by omega)), rfl, rfl, rfl, rfl, rfl, rfl, i64_eq (wrap_succ (by omega)), trivial⟩ (putH_H2 _ _ _ _)
      have hop : opEv f i j o t = ([], t) := by simp [opEv, k3, k4, k5, k6, k7, k8, k9]
      rw [hop] at hnext
      refine RunF_sound tab_ok noX_local 200 [false, false, false, false, false, false, false] _ _ rfl ?_ ?_
      · simp [k3, k4, k5, k6, k7, k8, k9]
      exact hnext L t (by simp) rfl _ ⟨rfl, rfl, rfl, rfl, rfl, rfl, rfl, rfl, rfl, i64_eq (wrap_succ (by omega)), trivial⟩ (putH_H2 _ _ _ _)
theorem list_enters : Enters Tryd.prog 15 := enters_mk Tryd.func15 (by decide) rfl
end Go.Proofs.YtehimiadpgbhmaaDoor
