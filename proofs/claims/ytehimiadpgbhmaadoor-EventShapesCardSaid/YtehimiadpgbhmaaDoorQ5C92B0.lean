/-
  Own work, merged: PLE, PLO.
-/
import Derived.AtR
import Derived.Below
import Derived.ChangeKeysEq
import Derived.KernelRfl
import Derived.LaidMore
import Derived.Laws.AppendOwn
import Derived.Laws.BytesString
import Derived.Laws.Cells
import Derived.Laws.CopyRow
import Derived.Laws.Entries
import Derived.Laws.Rows
import Derived.Laws.Small
import Derived.Laws.StructEq
import Derived.Lib.LaidTab
import Derived.Lib.TrailingZeros
import Derived.Maps.AppendAt
import Derived.OpenShut
import Derived.Orders
import Derived.ProofKit
import Derived.RangeFuncRecord
import Derived.SevenTiedAt
import Derived.Shelf.Lay
import Derived.Shelf.Strconv.Itoa3
import Derived.Stop.Joined
import Derived.Test.YtehimiadpgbhmaaDoorCards
import Derived.Test.YtehimiadpgbhmaaDoorChecked
import Derived.Test.YtehimiadpgbhmaaDoorProg
import Derived.Test.YtehimiadpgbhmaaDoorRows
import Derived.Test.YtehimiadpgbhmaaDoorTie
import Derived.Test.YtehimiadpgbhmaaDoorQEB4A47
/-
  What the rows of this seat share: the listed table out of the row's condition; the witness's heap. Own work.
-/
namespace Go.Proofs.YtehimiadpgbhmaaDoor
open Go.ChangeShapes Go.WideShapes Go.ChangeAt Go.RowKit Go.AM

theorem Tryd.own : ownKnob Tryd.prog.godebug = none := by kernel_rfl
theorem Tryd.laidOut : laidOutB Tryd.prog = true := by kernel_rfl
theorem Tryd.gTab : Tryd.prog.globalNamed "math/bits.deBruijn64tab" = some 0 := by kernel_rfl
theorem Tryd.gTabType : (Tryd.prog.globals[0]?).map (·.type) = some 94 := by kernel_rfl

abbrev laidL : List (String × DataW Unit) := [("math/bits.deBruijn64tab", Rows.laid_math_bits_deBruijn64tab)]

theorem tab_of_laid {W : World} (h : laidMetH Tryd.prog laidL W) : TabAt W ∧ 0 < W.heap.size := by
  rw [MakeChecks.laidMetH_plain _ _ _ (by kernel_rfl)] at h
  have h1 : Lib.TabIs Tryd.prog W "math/bits.deBruijn64tab" .u8 (Lib.deBruijn64tab.map fun n : Nat => (n : Int)) :=
    Lib.tabIs_of_head Tryd.gTab Tryd.gTabType Tryd.underlying94 Tryd.underlying5 (by kernel_rfl) (by kernel_rfl) h
  have h2 : TabAt W := by
    intro j hj
    rw [World.var?_cell Tryd.gTab h1 j]
    have hl : Lib.deBruijn64tab.length = 64 := by decide
    simp [hl, hj, List.getD]
  exact ⟨h2, World.block_lt_of_cell? W _ (h2 0 (by decide))⟩

theorem door_met (os : Os) (args : Array Value) : laidMetH Tryd.prog laidL ((World.doorLaid Tryd.prog 24 os).forCall (fun _ _ => 0) ⟨#[], args, []⟩).memory :=
  laidMetH_of_parts3 (fuel := 8) (laidMet_of_run' 8 (by kernel_rfl) (by kernel_rfl)) (by kernel_rfl) (by kernel_rfl)
end Go.Proofs.YtehimiadpgbhmaaDoor

/-
  The rows that list three tables. Own work.
-/
namespace Go.Proofs.YtehimiadpgbhmaaDoor
open Go.ChangeShapes Go.WideShapes Go.ChangeAt Go.RowKit Go.AM

abbrev laidB : List (String × DataW Unit) := [("math/bits.deBruijn32tab", Rows.laid_math_bits_deBruijn32tab), ("math/bits.deBruijn64tab", Rows.laid_math_bits_deBruijn64tab), ("internal/strconv.uint64pow10", Rows.laid_internal_strconv_uint64pow10)]

abbrev laidC : List (String × DataW Unit) := [("math/bits.deBruijn64tab", Rows.laid_math_bits_deBruijn64tab), ("internal/strconv.uint64pow10", Rows.laid_internal_strconv_uint64pow10)]
theorem tab_of_laidB {W : World} (h : laidMetH Tryd.prog laidB W) : TabAt W ∧ 0 < W.heap.size := by
  rw [MakeChecks.laidMetH_plain _ _ _ (by kernel_rfl)] at h
  have ht : laidMet Tryd.prog laidC W := by
    obtain ⟨ps, ⟨_, _, _, _, p, q, _, _, _, _, hr, rfl⟩, hnd, hall⟩ := h
    exact ⟨q, hr, (List.nodup_append.1 hnd).2.1, fun b off hb => hall b off (List.mem_append_right _ hb)⟩
  have h1 : Lib.TabIs Tryd.prog W "math/bits.deBruijn64tab" .u8 (Lib.deBruijn64tab.map fun n : Nat => (n : Int)) :=
    Lib.tabIs_of_head Tryd.gTab Tryd.gTabType Tryd.underlying94 Tryd.underlying5 (by kernel_rfl) (by kernel_rfl) ht
  have h2 : TabAt W := by
    intro j hj
    rw [World.var?_cell Tryd.gTab h1 j]
    have hl : Lib.deBruijn64tab.length = 64 := by decide
    simp [hl, hj, List.getD]
  exact ⟨h2, World.block_lt_of_cell? W _ (h2 0 (by decide))⟩

theorem door_metB (os : Os) (args : Array Value) : laidMetH Tryd.prog laidB ((World.doorLaid Tryd.prog 24 os).forCall (fun _ _ => 0) ⟨#[], args, []⟩).memory :=
  laidMetH_of_parts3 (fuel := 8) (laidMet_of_run' 8 (by kernel_rfl) (by kernel_rfl)) (by kernel_rfl) (by kernel_rfl)
end Go.Proofs.YtehimiadpgbhmaaDoor
