/-
  SetsOnes answers true. Own work.
-/
import Derived.Test.YtpfanhbkjajocaaDoorS4
namespace Go.Proofs.YtpfanhbkjajocaaDoor
open Go.AM
set_option maxRecDepth 100000

theorem ones1_ok (x : BitVec 64) (i : Int) (hi : i ≤ 9223372036854775807) (w : World) (hT : TabAt w) (h0 : 0 < w.heap.size) : Gives Tryd.prog 3 [.int .u64 (un x), .int .i64 i] w (.bool true) := by
  refine Gives.of_run Tryd.func3 rfl (by show 2 ≤ 73; decide) ?_
  refine RunF_sound tab_ok noX_local 100 [] _ _ rfl ?_ ?_
  · simp
  refine Run.callFn noX_local rfl rfl rfl rfl rfl rfl rfl has_enters rfl (fun w' _ => has_ok x i w') ?_
  refine RunF_sound tab_ok noX_local 100 [] _ _ rfl ?_ ?_
  · simp
  refine Run.callFn noX_local rfl rfl rfl rfl rfl rfl rfl hasR_enters rfl (fun w' _ => hasR_ok x i w') ?_
  refine RunF_sound tab_ok noX_local 100 [true] _ _ rfl ?_ ?_
  · simp
  refine Run.callFn noX_local rfl rfl rfl rfl rfl rfl rfl with_enters rfl (fun w' _ => with_ok x i w') ?_
  refine RunF_sound tab_ok noX_local 100 [] _ _ rfl ?_ ?_
  · simp
  refine Run.callFn noX_local rfl rfl rfl rfl rfl rfl rfl withR_enters rfl (fun w' _ => withR_ok x i w') ?_
  refine RunF_sound tab_ok noX_local 100 [true] _ _ rfl ?_ ?_
  · simp
  refine Run.callFn noX_local rfl rfl rfl rfl rfl rfl rfl without_enters rfl (fun w' _ => without_ok x i w') ?_
  refine RunF_sound tab_ok noX_local 100 [] _ _ rfl ?_ ?_
  · simp
  refine Run.callFn noX_local rfl rfl rfl rfl rfl rfl rfl withoutR_enters rfl (fun w' _ => withoutR_ok x i w') ?_
  refine RunF_sound tab_ok noX_local 100 [true] _ _ rfl ?_ ?_
  · simp
  refine Run.callFn noX_local rfl rfl rfl rfl rfl rfl rfl size_enters rfl (fun w' _ => size_ok x w') ?_
  refine RunF_sound tab_ok noX_local 100 [] _ _ rfl ?_ ?_
  · simp
  refine Run.callFn noX_local rfl rfl rfl rfl rfl rfl rfl sizeR_enters rfl (fun w' _ => sizeR_ok x w') ?_
  refine RunF_sound tab_ok noX_local 100 [true] _ _ rfl ?_ ?_
  · simp
  refine Run.callFn noX_local rfl rfl rfl rfl rfl rfl rfl next_enters rfl (fun w' hA => next_ok x i w' (hT.agree hA (fun f => f))) ?_
  refine RunF_sound tab_ok noX_local 100 [] _ _ rfl ?_ ?_
  · simp
  refine Run.callFn noX_local rfl rfl rfl rfl rfl rfl rfl nextR_enters rfl (fun w' _ => nextR_ok x i hi w') ?_
  refine RunF_sound tab_ok noX_local 100 [true] _ _ rfl ?_ ?_
  · simp
  refine Run.callFn noX_local rfl rfl rfl rfl rfl rfl rfl at_enters rfl (fun w' hA => at_ok x i w' (hT.agree hA (fun f => f)) (Nat.lt_of_lt_of_le h0 hA.size) hi) ?_
  refine RunF_sound tab_ok noX_local 100 [] _ _ rfl ?_ ?_
  · simp
  refine Run.callFn noX_local rfl rfl rfl rfl rfl rfl rfl atR_enters rfl (fun w' _ => atR_ok x i w') ?_
  refine RunF_sound tab_ok noX_local 100 [true] _ _ rfl ?_ ?_
  · simp
  refine Run.callFn noX_local rfl rfl rfl rfl rfl rfl rfl rank_enters rfl (fun w' _ => rank_ok x i w') ?_
  refine RunF_sound tab_ok noX_local 100 [] _ _ rfl ?_ ?_
  · simp
  refine Run.callFn noX_local rfl rfl rfl rfl rfl rfl rfl rankR_enters rfl (fun w' _ => rankR_ok x i w') ?_
  refine RunF_sound tab_ok noX_local 100 [true] _ _ rfl ?_ ?_
  · simp
  refine Run.callFn noX_local rfl rfl rfl rfl rfl rfl rfl below_enters rfl (fun w' _ => below_ok i w') ?_
  refine RunF_sound tab_ok noX_local 100 [] _ _ rfl ?_ ?_
  · simp
  refine Run.callFn noX_local rfl rfl rfl rfl rfl rfl rfl belowR_enters rfl (fun w' _ => belowR_ok i w') ?_
  refine RunF_sound tab_ok noX_local 100 [] _ _ rfl ?_ ?_
  · simp
  refine Run.retP tab_ok Tryd.func3 rfl trivial (fun M => ?_)
  simp [resAV, conc]
theorem ones1_enters : Enters Tryd.prog 3 := enters_mk Tryd.func3 (by decide) rfl
end Go.Proofs.YtpfanhbkjajocaaDoor
