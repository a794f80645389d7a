/-
  Own work, merged: M4, M5, M6, M7.
-/
import Derived.AtR
import Derived.Below
import Derived.ChangeKeysEq
import Derived.KernelRfl
import Derived.Laws.AppendOwn
import Derived.Laws.BytesString
import Derived.Laws.Cells
import Derived.Laws.CopyRow
import Derived.Laws.Entries
import Derived.Laws.Rows
import Derived.Laws.Small
import Derived.Laws.StructEq
import Derived.Lib.TrailingZeros
import Derived.Maps.AppendAt
import Derived.Orders
import Derived.RangeFuncRecord
import Derived.Test.YtmammebifhmnhaaDoorProg
import Derived.Test.YtmammebifhmnhaaDoorQ56288B
/-
  model.relation. Own work; printed by tools/gen_base.py.
-/
namespace Go.Proofs.YtmammebifhmnhaaDoor
open Go.AM
set_option maxRecDepth 100000

theorem relation_0 (x : Xn) (s : ByteArray) (w : World) (hX : SeesX w x) (h0 : s.toList = [112, 111]) :
    Gives Tryd.prog 28 [encX x, .string s] w (.tuple #[encVR (standsL 1 x.ev), .bool true]) := by
  refine Gives.of_run Tryd.func28 rfl (by show 2 ≤ 89; decide) ?_
  have hone := xV_one hX.one1 hX.one4
  have hev : ∀ {w'}, Agree (fun _ => False) w w' → SeesV w' x.pe x.ev := fun hA => hX.ev.agree hA (fun _ _ h => h)
  refine RunF_sound tab_ok noX_local 400 [true] _ _ rfl ?_ ?_
  · simp [sz3, h0]
  refine Run.callFn (r := encRel (standsL 1 x.ev)) noX_local rfl rfl rfl rfl rfl rfl rfl po_enters rfl (fun w' hA => by have := po_ok x.pe x.ce x.ev w' (hev hA); rw [eqPo] at this; exact this) ?_
  generalize standsL 1 x.ev = Y
  refine Run.callFn (r := encVR Y) noX_local rfl rfl rfl rfl rfl rfl rfl isRel_enters rfl (fun w' _ => isRel_ok Y w') ?_
  refine RunF_sound tab_ok noX_local 100 [] _ _ rfl ?_ ?_
  · simp [valR_len]
    exact ⟨valR_one Y, rfl⟩
  refine Run.retL tab_ok Tryd.func28 rfl ?_ (fun M => ?_)
  · simp [valR_len]
  rfl

theorem relation_1 (x : Xn) (s : ByteArray) (w : World) (hX : SeesX w x) (h1 : s.toList = [108, 111, 99]) :
    Gives Tryd.prog 28 [encX x, .string s] w (.tuple #[encVR (standsL 2 x.ev), .bool true]) := by
  refine Gives.of_run Tryd.func28 rfl (by show 2 ≤ 89; decide) ?_
  have hone := xV_one hX.one1 hX.one4
  have hev : ∀ {w'}, Agree (fun _ => False) w w' → SeesV w' x.pe x.ev := fun hA => hX.ev.agree hA (fun _ _ h => h)
  refine RunF_sound tab_ok noX_local 400 [false, true] _ _ rfl ?_ ?_
  · simp [sz3, h1]
  refine Run.callFn (r := encRel (standsL 2 x.ev)) noX_local rfl rfl rfl rfl rfl rfl rfl loc_enters rfl (fun w' hA => by have := loc_ok x.pe x.ce x.ev w' (hev hA); rw [eqLoc] at this; exact this) ?_
  generalize standsL 2 x.ev = Y
  refine Run.callFn (r := encVR Y) noX_local rfl rfl rfl rfl rfl rfl rfl isRel_enters rfl (fun w' _ => isRel_ok Y w') ?_
  refine RunF_sound tab_ok noX_local 100 [] _ _ rfl ?_ ?_
  · simp [valR_len]
    exact ⟨valR_one Y, rfl⟩
  refine Run.retL tab_ok Tryd.func28 rfl ?_ (fun M => ?_)
  · simp [valR_len]
  rfl

theorem relation_2 (x : Xn) (s : ByteArray) (w : World) (hX : SeesX w x) (h2 : s.toList = [105, 110, 116]) :
    Gives Tryd.prog 28 [encX x, .string s] w (.tuple #[encVR (standsL 3 x.ev), .bool true]) := by
  refine Gives.of_run Tryd.func28 rfl (by show 2 ≤ 89; decide) ?_
  have hone := xV_one hX.one1 hX.one4
  have hev : ∀ {w'}, Agree (fun _ => False) w w' → SeesV w' x.pe x.ev := fun hA => hX.ev.agree hA (fun _ _ h => h)
  refine RunF_sound tab_ok noX_local 400 [false, false, true] _ _ rfl ?_ ?_
  · simp [sz3, h2]
  refine Run.callFn (r := encRel (standsL 3 x.ev)) noX_local rfl rfl rfl rfl rfl rfl rfl int_enters rfl (fun w' hA => by have := int_ok x.pe x.ce x.ev w' (hev hA); rw [eqInt] at this; exact this) ?_
  generalize standsL 3 x.ev = Y
  refine Run.callFn (r := encVR Y) noX_local rfl rfl rfl rfl rfl rfl rfl isRel_enters rfl (fun w' _ => isRel_ok Y w') ?_
  refine RunF_sound tab_ok noX_local 100 [] _ _ rfl ?_ ?_
  · simp [valR_len]
    exact ⟨valR_one Y, rfl⟩
  refine Run.retL tab_ok Tryd.func28 rfl ?_ (fun M => ?_)
  · simp [valR_len]
  rfl

theorem relation_3 (x : Xn) (s : ByteArray) (w : World) (hX : SeesX w x) (h3 : s.toList = [101, 120, 116]) :
    Gives Tryd.prog 28 [encX x, .string s] w (.tuple #[encVR (standsL 4 x.ev), .bool true]) := by
  refine Gives.of_run Tryd.func28 rfl (by show 2 ≤ 89; decide) ?_
  have hone := xV_one hX.one1 hX.one4
  have hev : ∀ {w'}, Agree (fun _ => False) w w' → SeesV w' x.pe x.ev := fun hA => hX.ev.agree hA (fun _ _ h => h)
  refine RunF_sound tab_ok noX_local 400 [false, false, false, true] _ _ rfl ?_ ?_
  · simp [sz3, h3]
  refine Run.callFn (r := encRel (standsL 4 x.ev)) noX_local rfl rfl rfl rfl rfl rfl rfl ext_enters rfl (fun w' hA => by have := ext_ok x.pe x.ce x.ev w' (hev hA); rw [eqExt] at this; exact this) ?_
  generalize standsL 4 x.ev = Y
  refine Run.callFn (r := encVR Y) noX_local rfl rfl rfl rfl rfl rfl rfl isRel_enters rfl (fun w' _ => isRel_ok Y w') ?_
  refine RunF_sound tab_ok noX_local 100 [] _ _ rfl ?_ ?_
  · simp [valR_len]
    exact ⟨valR_one Y, rfl⟩
  refine Run.retL tab_ok Tryd.func28 rfl ?_ (fun M => ?_)
  · simp [valR_len]
  rfl

theorem relation_4 (x : Xn) (s : ByteArray) (w : World) (hX : SeesX w x) (h4 : s.toList = [114, 109, 119]) :
    Gives Tryd.prog 28 [encX x, .string s] w (.tuple #[encVR (standsL 5 x.ev), .bool true]) := by
  refine Gives.of_run Tryd.func28 rfl (by show 2 ≤ 89; decide) ?_
  have hone := xV_one hX.one1 hX.one4
  have hev : ∀ {w'}, Agree (fun _ => False) w w' → SeesV w' x.pe x.ev := fun hA => hX.ev.agree hA (fun _ _ h => h)
  refine RunF_sound tab_ok noX_local 400 [false, false, false, false, true] _ _ rfl ?_ ?_
  · simp [sz3, h4]
  refine Run.callFn (r := encRel (standsL 5 x.ev)) noX_local rfl rfl rfl rfl rfl rfl rfl rmw_enters rfl (fun w' hA => by have := rmw_ok x.pe x.ce x.ev w' (hev hA); rw [eqRmw] at this; exact this) ?_
  generalize standsL 5 x.ev = Y
  refine Run.callFn (r := encVR Y) noX_local rfl rfl rfl rfl rfl rfl rfl isRel_enters rfl (fun w' _ => isRel_ok Y w') ?_
  refine RunF_sound tab_ok noX_local 100 [] _ _ rfl ?_ ?_
  · simp [valR_len]
    exact ⟨valR_one Y, rfl⟩
  refine Run.retL tab_ok Tryd.func28 rfl ?_ (fun M => ?_)
  · simp [valR_len]
  rfl

theorem relation_5 (x : Xn) (s : ByteArray) (w : World) (hX : SeesX w x) (h5 : s.toList = [114, 102]) :
    Gives Tryd.prog 28 [encX x, .string s] w (.tuple #[encVR (rfX x), .bool true]) := by
  refine Gives.of_run Tryd.func28 rfl (by show 2 ≤ 89; decide) ?_
  have hone := xV_one hX.one1 hX.one4
  refine RunF_sound tab_ok noX_local 400 [false, false, false, false, false, true] _ _ rfl ?_ ?_
  · simp [sz3, h5]
  refine Run.callFn (r := encRel (rfX x)) noX_local rfl rfl rfl rfl rfl rfl rfl rf_enters rfl (fun w' hA => rf_ok x w' (hX.agree hA)) ?_
  generalize rfX x = Y
  refine Run.callFn (r := encVR Y) noX_local rfl rfl rfl rfl rfl rfl rfl isRel_enters rfl (fun w' _ => isRel_ok Y w') ?_
  refine RunF_sound tab_ok noX_local 100 [] _ _ rfl ?_ ?_
  · simp [valR_len]
    exact ⟨valR_one Y, rfl⟩
  refine Run.retL tab_ok Tryd.func28 rfl ?_ (fun M => ?_)
  · simp [valR_len]
  rfl

theorem relation_6 (x : Xn) (s : ByteArray) (w : World) (hX : SeesX w x) (h6 : s.toList = [99, 111]) :
    Gives Tryd.prog 28 [encX x, .string s] w (.tuple #[encVR (coX x), .bool true]) := by
  refine Gives.of_run Tryd.func28 rfl (by show 2 ≤ 89; decide) ?_
  have hone := xV_one hX.one1 hX.one4
  refine RunF_sound tab_ok noX_local 400 [false, false, false, false, false, false, true] _ _ rfl ?_ ?_
  · simp [sz3, h6]
  refine Run.callFn (r := encRel (coX x)) noX_local rfl rfl rfl rfl rfl rfl rfl co_enters rfl (fun w' hA => co_ok x w' (hX.agree hA)) ?_
  generalize coX x = Y
  refine Run.callFn (r := encVR Y) noX_local rfl rfl rfl rfl rfl rfl rfl isRel_enters rfl (fun w' _ => isRel_ok Y w') ?_
  refine RunF_sound tab_ok noX_local 100 [] _ _ rfl ?_ ?_
  · simp [valR_len]
    exact ⟨valR_one Y, rfl⟩
  refine Run.retL tab_ok Tryd.func28 rfl ?_ (fun M => ?_)
  · simp [valR_len]
  rfl

theorem relation_7 (x : Xn) (s : ByteArray) (w : World) (hX : SeesX w x) (hT : TabAt w) (h0w : 0 < w.heap.size) (h7 : s.toList = [102, 114]) :
    Gives Tryd.prog 28 [encX x, .string s] w (.tuple #[encVR (frX x), .bool true]) := by
  refine Gives.of_run Tryd.func28 rfl (by show 2 ≤ 89; decide) ?_
  have hone := xV_one hX.one1 hX.one4
  have hTA : ∀ {w'}, Agree (fun _ => False) w w' → TabAt w' := fun hA => hT.agree hA (fun f => f)
  have hSA : ∀ {w'}, Agree (fun _ => False) w w' → 0 < w'.heap.size := fun hA => Nat.lt_of_lt_of_le h0w hA.size
  refine RunF_sound tab_ok noX_local 400 [false, false, false, false, false, false, false, true] _ _ rfl ?_ ?_
  · simp [sz3, h7]
  refine Run.callFn (r := encRel (frX x)) noX_local rfl rfl rfl rfl rfl rfl rfl fr_enters rfl (fun w' hA => fr_ok x w' (hX.agree hA) (hTA hA) (hSA hA)) ?_
  generalize frX x = Y
  refine Run.callFn (r := encVR Y) noX_local rfl rfl rfl rfl rfl rfl rfl isRel_enters rfl (fun w' _ => isRel_ok Y w') ?_
  refine RunF_sound tab_ok noX_local 100 [] _ _ rfl ?_ ?_
  · simp [valR_len]
    exact ⟨valR_one Y, rfl⟩
  refine Run.retL tab_ok Tryd.func28 rfl ?_ (fun M => ?_)
  · simp [valR_len]
  rfl

theorem relation_8 (x : Xn) (s : ByteArray) (w : World) (hX : SeesX w x) (h8 : s.toList = [114, 102, 101]) :
    Gives Tryd.prog 28 [encX x, .string s] w (.tuple #[encVR (meetL (rfX x) (standsL 4 x.ev)), .bool true]) := by
  refine Gives.of_run Tryd.func28 rfl (by show 2 ≤ 89; decide) ?_
  have hone := xV_one hX.one1 hX.one4
  refine RunF_sound tab_ok noX_local 400 [false, false, false, false, false, false, false, false, true, true] _ _ rfl ?_ ?_
  · simp [sz3, h8]
  refine Run.drawA noX_local rfl [] [(0, .cells 28 [.vals 5 (xV x)])] rfl rfl ⟨rfl, trivial⟩ ?_
  refine RunOF_sound tab_ok noX_local rfl rfl 100 [] _ _ rfl ?_ ?_
  · simp
  refine RunO.callFn (r := encRel (rfX x)) noX_local rfl rfl rfl rfl rfl rfl rfl rfl rf_enters rfl (fun w' hA => rf_ok x w' (hX.agree hA)) ?_
  refine RunOF_sound tab_ok noX_local rfl rfl 100 [] _ _ rfl ?_ ?_
  · simp
  refine RunO.callFn (r := encVR (meetL (rfX x) (standsL 4 x.ev))) noX_local rfl rfl rfl rfl rfl rfl rfl rfl part_enters rfl (fun w' hA => ?_) ?_
  · have hb : (s.toList == (⟨#[114, 102, 105]⟩ : ByteArray).toList) = false := by rw [h8]; decide +kernel
    show Gives _ _ [encRel (rfX x), encX x, .bool (s.toList == (⟨#[114, 102, 105]⟩ : ByteArray).toList)] w' _
    rw [hb]
    exact part_ok (rfX x) x false w' (hX.agree hA)
  generalize meetL (rfX x) (standsL 4 x.ev) = Y
  refine RunOF_sound tab_ok noX_local rfl rfl 100 [] _ _ rfl ?_ ?_
  · simp [segsVals, inT, valR_len, sz3]
    exact ⟨valR_one Y, rfl⟩
  refine RunO.done ?_
  refine RunF_sound tab_ok noX_local 100 [] _ _ rfl ?_ ?_
  · simp
  refine Run.retL tab_ok Tryd.func28 rfl ?_ (fun M => ?_)
  · simp [valR_len]
  rfl

theorem relation_9 (x : Xn) (s : ByteArray) (w : World) (hX : SeesX w x) (h9 : s.toList = [114, 102, 105]) :
    Gives Tryd.prog 28 [encX x, .string s] w (.tuple #[encVR (meetL (rfX x) (standsL 3 x.ev)), .bool true]) := by
  refine Gives.of_run Tryd.func28 rfl (by show 2 ≤ 89; decide) ?_
  have hone := xV_one hX.one1 hX.one4
  refine RunF_sound tab_ok noX_local 400 [false, false, false, false, false, false, false, false, false, true] _ _ rfl ?_ ?_
  · simp [sz3, h9]
  refine Run.drawA noX_local rfl [] [(0, .cells 28 [.vals 5 (xV x)])] rfl rfl ⟨rfl, trivial⟩ ?_
  refine RunOF_sound tab_ok noX_local rfl rfl 100 [] _ _ rfl ?_ ?_
  · simp
  refine RunO.callFn (r := encRel (rfX x)) noX_local rfl rfl rfl rfl rfl rfl rfl rfl rf_enters rfl (fun w' hA => rf_ok x w' (hX.agree hA)) ?_
  refine RunOF_sound tab_ok noX_local rfl rfl 100 [] _ _ rfl ?_ ?_
  · simp
  refine RunO.callFn (r := encVR (meetL (rfX x) (standsL 3 x.ev))) noX_local rfl rfl rfl rfl rfl rfl rfl rfl part_enters rfl (fun w' hA => ?_) ?_
  · have hb : (s.toList == (⟨#[114, 102, 105]⟩ : ByteArray).toList) = true := by rw [h9]; decide +kernel
    show Gives _ _ [encRel (rfX x), encX x, .bool (s.toList == (⟨#[114, 102, 105]⟩ : ByteArray).toList)] w' _
    rw [hb]
    exact part_ok (rfX x) x true w' (hX.agree hA)
  generalize meetL (rfX x) (standsL 3 x.ev) = Y
  refine RunOF_sound tab_ok noX_local rfl rfl 100 [] _ _ rfl ?_ ?_
  · simp [segsVals, inT, valR_len, sz3]
    exact ⟨valR_one Y, rfl⟩
  refine RunO.done ?_
  refine RunF_sound tab_ok noX_local 100 [] _ _ rfl ?_ ?_
  · simp
  refine Run.retL tab_ok Tryd.func28 rfl ?_ (fun M => ?_)
  · simp [valR_len]
  rfl

theorem relation_10 (x : Xn) (s : ByteArray) (w : World) (hX : SeesX w x) (h10 : s.toList = [99, 111, 101]) :
    Gives Tryd.prog 28 [encX x, .string s] w (.tuple #[encVR (meetL (coX x) (standsL 4 x.ev)), .bool true]) := by
  refine Gives.of_run Tryd.func28 rfl (by show 2 ≤ 89; decide) ?_
  have hone := xV_one hX.one1 hX.one4
  refine RunF_sound tab_ok noX_local 400 [false, false, false, false, false, false, false, false, false, false, true, true] _ _ rfl ?_ ?_
  · simp [sz3, h10]
  refine Run.drawA noX_local rfl [] [(0, .cells 28 [.vals 5 (xV x)])] rfl rfl ⟨rfl, trivial⟩ ?_
  refine RunOF_sound tab_ok noX_local rfl rfl 100 [] _ _ rfl ?_ ?_
  · simp
  refine RunO.callFn (r := encRel (coX x)) noX_local rfl rfl rfl rfl rfl rfl rfl rfl co_enters rfl (fun w' hA => co_ok x w' (hX.agree hA)) ?_
  refine RunOF_sound tab_ok noX_local rfl rfl 100 [] _ _ rfl ?_ ?_
  · simp
  refine RunO.callFn (r := encVR (meetL (coX x) (standsL 4 x.ev))) noX_local rfl rfl rfl rfl rfl rfl rfl rfl part_enters rfl (fun w' hA => ?_) ?_
  · have hb : (s.toList == (⟨#[99, 111, 105]⟩ : ByteArray).toList) = false := by rw [h10]; decide +kernel
    show Gives _ _ [encRel (coX x), encX x, .bool (s.toList == (⟨#[99, 111, 105]⟩ : ByteArray).toList)] w' _
    rw [hb]
    exact part_ok (coX x) x false w' (hX.agree hA)
  generalize meetL (coX x) (standsL 4 x.ev) = Y
  refine RunOF_sound tab_ok noX_local rfl rfl 100 [] _ _ rfl ?_ ?_
  · simp [segsVals, inT, valR_len, sz3]
    exact ⟨valR_one Y, rfl⟩
  refine RunO.done ?_
  refine RunF_sound tab_ok noX_local 100 [] _ _ rfl ?_ ?_
  · simp
  refine Run.retL tab_ok Tryd.func28 rfl ?_ (fun M => ?_)
  · simp [valR_len]
  rfl

theorem relation_11 (x : Xn) (s : ByteArray) (w : World) (hX : SeesX w x) (h11 : s.toList = [99, 111, 105]) :
    Gives Tryd.prog 28 [encX x, .string s] w (.tuple #[encVR (meetL (coX x) (standsL 3 x.ev)), .bool true]) := by
  refine Gives.of_run Tryd.func28 rfl (by show 2 ≤ 89; decide) ?_
  have hone := xV_one hX.one1 hX.one4
  refine RunF_sound tab_ok noX_local 400 [false, false, false, false, false, false, false, false, false, false, false, true] _ _ rfl ?_ ?_
  · simp [sz3, h11]
  refine Run.drawA noX_local rfl [] [(0, .cells 28 [.vals 5 (xV x)])] rfl rfl ⟨rfl, trivial⟩ ?_
  refine RunOF_sound tab_ok noX_local rfl rfl 100 [] _ _ rfl ?_ ?_
  · simp
  refine RunO.callFn (r := encRel (coX x)) noX_local rfl rfl rfl rfl rfl rfl rfl rfl co_enters rfl (fun w' hA => co_ok x w' (hX.agree hA)) ?_
  refine RunOF_sound tab_ok noX_local rfl rfl 100 [] _ _ rfl ?_ ?_
  · simp
  refine RunO.callFn (r := encVR (meetL (coX x) (standsL 3 x.ev))) noX_local rfl rfl rfl rfl rfl rfl rfl rfl part_enters rfl (fun w' hA => ?_) ?_
  · have hb : (s.toList == (⟨#[99, 111, 105]⟩ : ByteArray).toList) = true := by rw [h11]; decide +kernel
    show Gives _ _ [encRel (coX x), encX x, .bool (s.toList == (⟨#[99, 111, 105]⟩ : ByteArray).toList)] w' _
    rw [hb]
    exact part_ok (coX x) x true w' (hX.agree hA)
  generalize meetL (coX x) (standsL 3 x.ev) = Y
  refine RunOF_sound tab_ok noX_local rfl rfl 100 [] _ _ rfl ?_ ?_
  · simp [segsVals, inT, valR_len, sz3]
    exact ⟨valR_one Y, rfl⟩
  refine RunO.done ?_
  refine RunF_sound tab_ok noX_local 100 [] _ _ rfl ?_ ?_
  · simp
  refine Run.retL tab_ok Tryd.func28 rfl ?_ (fun M => ?_)
  · simp [valR_len]
  rfl

theorem relation_12 (x : Xn) (s : ByteArray) (w : World) (hX : SeesX w x) (hT : TabAt w) (h0w : 0 < w.heap.size) (h12 : s.toList = [102, 114, 101]) :
    Gives Tryd.prog 28 [encX x, .string s] w (.tuple #[encVR (meetL (frX x) (standsL 4 x.ev)), .bool true]) := by
  refine Gives.of_run Tryd.func28 rfl (by show 2 ≤ 89; decide) ?_
  have hone := xV_one hX.one1 hX.one4
  have hTA : ∀ {w'}, Agree (fun _ => False) w w' → TabAt w' := fun hA => hT.agree hA (fun f => f)
  have hSA : ∀ {w'}, Agree (fun _ => False) w w' → 0 < w'.heap.size := fun hA => Nat.lt_of_lt_of_le h0w hA.size
  refine RunF_sound tab_ok noX_local 400 [false, false, false, false, false, false, false, false, false, false, false, false, true, true] _ _ rfl ?_ ?_
  · simp [sz3, h12]
  refine Run.drawA noX_local rfl [] [(0, .cells 28 [.vals 5 (xV x)])] rfl rfl ⟨rfl, trivial⟩ ?_
  refine RunOF_sound tab_ok noX_local rfl rfl 100 [] _ _ rfl ?_ ?_
  · simp
  refine RunO.callFn (r := encRel (frX x)) noX_local rfl rfl rfl rfl rfl rfl rfl rfl fr_enters rfl (fun w' hA => fr_ok x w' (hX.agree hA) (hTA hA) (hSA hA)) ?_
  refine RunOF_sound tab_ok noX_local rfl rfl 100 [] _ _ rfl ?_ ?_
  · simp
  refine RunO.callFn (r := encVR (meetL (frX x) (standsL 4 x.ev))) noX_local rfl rfl rfl rfl rfl rfl rfl rfl part_enters rfl (fun w' hA => ?_) ?_
  · have hb : (s.toList == (⟨#[102, 114, 105]⟩ : ByteArray).toList) = false := by rw [h12]; decide +kernel
    show Gives _ _ [encRel (frX x), encX x, .bool (s.toList == (⟨#[102, 114, 105]⟩ : ByteArray).toList)] w' _
    rw [hb]
    exact part_ok (frX x) x false w' (hX.agree hA)
  generalize meetL (frX x) (standsL 4 x.ev) = Y
  refine RunOF_sound tab_ok noX_local rfl rfl 100 [] _ _ rfl ?_ ?_
  · simp [segsVals, inT, valR_len, sz3]
    exact ⟨valR_one Y, rfl⟩
  refine RunO.done ?_
  refine RunF_sound tab_ok noX_local 100 [] _ _ rfl ?_ ?_
  · simp
  refine Run.retL tab_ok Tryd.func28 rfl ?_ (fun M => ?_)
  · simp [valR_len]
  rfl

theorem relation_13 (x : Xn) (s : ByteArray) (w : World) (hX : SeesX w x) (hT : TabAt w) (h0w : 0 < w.heap.size) (h13 : s.toList = [102, 114, 105]) :
    Gives Tryd.prog 28 [encX x, .string s] w (.tuple #[encVR (meetL (frX x) (standsL 3 x.ev)), .bool true]) := by
  refine Gives.of_run Tryd.func28 rfl (by show 2 ≤ 89; decide) ?_
  have hone := xV_one hX.one1 hX.one4
  have hTA : ∀ {w'}, Agree (fun _ => False) w w' → TabAt w' := fun hA => hT.agree hA (fun f => f)
  have hSA : ∀ {w'}, Agree (fun _ => False) w w' → 0 < w'.heap.size := fun hA => Nat.lt_of_lt_of_le h0w hA.size
  refine RunF_sound tab_ok noX_local 400 [false, false, false, false, false, false, false, false, false, false, false, false, false, true] _ _ rfl ?_ ?_
  · simp [sz3, h13]
  refine Run.drawA noX_local rfl [] [(0, .cells 28 [.vals 5 (xV x)])] rfl rfl ⟨rfl, trivial⟩ ?_
  refine RunOF_sound tab_ok noX_local rfl rfl 100 [] _ _ rfl ?_ ?_
  · simp
  refine RunO.callFn (r := encRel (frX x)) noX_local rfl rfl rfl rfl rfl rfl rfl rfl fr_enters rfl (fun w' hA => fr_ok x w' (hX.agree hA) (hTA hA) (hSA hA)) ?_
  refine RunOF_sound tab_ok noX_local rfl rfl 100 [] _ _ rfl ?_ ?_
  · simp
  refine RunO.callFn (r := encVR (meetL (frX x) (standsL 3 x.ev))) noX_local rfl rfl rfl rfl rfl rfl rfl rfl part_enters rfl (fun w' hA => ?_) ?_
  · have hb : (s.toList == (⟨#[102, 114, 105]⟩ : ByteArray).toList) = true := by rw [h13]; decide +kernel
    show Gives _ _ [encRel (frX x), encX x, .bool (s.toList == (⟨#[102, 114, 105]⟩ : ByteArray).toList)] w' _
    rw [hb]
    exact part_ok (frX x) x true w' (hX.agree hA)
  generalize meetL (frX x) (standsL 3 x.ev) = Y
  refine RunOF_sound tab_ok noX_local rfl rfl 100 [] _ _ rfl ?_ ?_
  · simp [segsVals, inT, valR_len, sz3]
    exact ⟨valR_one Y, rfl⟩
  refine RunO.done ?_
  refine RunF_sound tab_ok noX_local 100 [] _ _ rfl ?_ ?_
  · simp
  refine Run.retL tab_ok Tryd.func28 rfl ?_ (fun M => ?_)
  · simp [valR_len]
  rfl

theorem relation_14 (x : Xn) (s : ByteArray) (w : World) (hX : SeesX w x) (hl : x.ev.length ≤ maxLen) (h14 : s.toList = [105, 100]) :
    Gives Tryd.prog 28 [encX x, .string s] w (.tuple #[encVR (onL ((shortL x.ev).length : Int) (mask ((shortL x.ev).length : Int))), .bool true]) := by
  refine Gives.of_run Tryd.func28 rfl (by show 2 ≤ 89; decide) ?_
  have hone := xV_one hX.one1 hX.one4
  refine RunF_sound tab_ok noX_local 400 [false, false, false, false, false, false, false, false, false, false, false, false, false, false, true] _ _ rfl ?_ ?_
  · simp [sz3, h14]
  have hle := shortL_le x.ev
  have hsz : ∀ {w'}, Agree (fun _ => False) w w' → Gives Tryd.prog 70 [encX x] w' (.int .i64 ((shortL x.ev).length : Int)) := fun hA => size_ok x _ (hX.agree hA) hl
  generalize (shortL x.ev).length = n at *
  refine Run.drawA noX_local rfl [] [(0, .cells 28 [.vals 5 (xV x)])] rfl rfl ⟨rfl, trivial⟩ ?_
  refine RunOF_sound tab_ok noX_local rfl rfl 100 [] _ _ rfl ?_ ?_
  · simp
  refine RunO.callFn (r := .int .i64 (n : Int)) noX_local rfl rfl rfl rfl rfl rfl rfl rfl size_enters rfl (fun w' hA => hsz hA) ?_
  refine RunOF_sound tab_ok noX_local rfl rfl 100 [] _ _ rfl ?_ ?_
  · simp
  refine RunO.callFn (r := .int .i64 (n : Int)) noX_local rfl rfl rfl rfl rfl rfl rfl rfl size_enters rfl (fun w' hA => hsz hA) ?_
  refine RunOF_sound tab_ok noX_local rfl rfl 100 [] _ _ rfl ?_ ?_
  · simp
  refine RunO.callFn (r := .int .u64 (un (mask (n : Int)))) noX_local rfl rfl rfl rfl rfl rfl rfl rfl every_enters rfl (fun w' hA => every_ok (n : Int) w' (by omega)) ?_
  refine RunOF_sound tab_ok noX_local rfl rfl 100 [] _ _ rfl ?_ ?_
  · simp
  refine RunO.callFn (r := encRel (onL (n : Int) (mask (n : Int)))) noX_local rfl rfl rfl rfl rfl rfl rfl rfl on_enters rfl (fun w' hA => on_ok (n : Int) _ w') ?_
  generalize onL (n : Int) (mask (n : Int)) = Y
  refine RunOF_sound tab_ok noX_local rfl rfl 100 [] _ _ rfl ?_ ?_
  · simp
  refine RunO.callFn (r := encVR Y) noX_local rfl rfl rfl rfl rfl rfl rfl rfl isRel_enters rfl (fun w' hA => isRel_ok Y w') ?_
  refine RunOF_sound tab_ok noX_local rfl rfl 100 [] _ _ rfl ?_ ?_
  · simp [segsVals, inT, valR_len, sz3]
    exact ⟨valR_one Y, rfl⟩
  refine RunO.done ?_
  refine RunF_sound tab_ok noX_local 100 [] _ _ rfl ?_ ?_
  · simp
  refine Run.retL tab_ok Tryd.func28 rfl ?_ (fun M => ?_)
  · simp [valR_len]
  rfl

theorem relation_none (x : Xn) (s : ByteArray) (w : World) (hX : SeesX w x) (h0 : ¬ s.toList = [112, 111]) (h1 : ¬ s.toList = [108, 111, 99]) (h2 : ¬ s.toList = [105, 110, 116]) (h3 : ¬ s.toList = [101, 120, 116]) (h4 : ¬ s.toList = [114, 109, 119]) (h5 : ¬ s.toList = [114, 102]) (h6 : ¬ s.toList = [99, 111]) (h7 : ¬ s.toList = [102, 114]) (h8 : ¬ s.toList = [114, 102, 101]) (h9 : ¬ s.toList = [114, 102, 105]) (h10 : ¬ s.toList = [99, 111, 101]) (h11 : ¬ s.toList = [99, 111, 105]) (h12 : ¬ s.toList = [102, 114, 101]) (h13 : ¬ s.toList = [102, 114, 105]) (h14 : ¬ s.toList = [105, 100]) :
    Gives Tryd.prog 28 [encX x, .string s] w (.tuple #[encV0, .bool false]) := by
  refine Gives.of_run Tryd.func28 rfl (by show 2 ≤ 89; decide) ?_
  have hone := xV_one hX.one1 hX.one4
  refine RunF_sound tab_ok noX_local 400 [false, false, false, false, false, false, false, false, false, false, false, false, false, false, false] _ _ rfl ?_ ?_
  · simp [segsVals, fillL, Value.cells, sz3, h0, h1, h2, h3, h4, h5, h6, h7, h8, h9, h10, h11, h12, h13, h14]
    exact ⟨⟨by rw [sz1]; simp, by rw [sz2]; simp⟩, fun c hc => List.all_eq_true.1 (show z46.all Value.oneCell' = true from rfl) c hc⟩
  refine Run.retL tab_ok Tryd.func28 rfl ?_ (fun M => ?_)
  · exact ⟨rfl, trivial⟩
  rfl

theorem relation_ok (x : Xn) (s : ByteArray) (w : World) (hX : SeesX w x) (hl : x.ev.length ≤ maxLen) (hT : TabAt w) (h0w : 0 < w.heap.size) :
    Gives Tryd.prog 28 [encX x, .string s] w (relT x s) := by
  unfold relT
  by_cases h0 : s.toList = [112, 111]
  · rw [relX_0 x s h0]; exact relation_0 x s w hX h0
  by_cases h1 : s.toList = [108, 111, 99]
  · rw [relX_1 x s h0 h1]; exact relation_1 x s w hX h1
  by_cases h2 : s.toList = [105, 110, 116]
  · rw [relX_2 x s h0 h1 h2]; exact relation_2 x s w hX h2
  by_cases h3 : s.toList = [101, 120, 116]
  · rw [relX_3 x s h0 h1 h2 h3]; exact relation_3 x s w hX h3
  by_cases h4 : s.toList = [114, 109, 119]
  · rw [relX_4 x s h0 h1 h2 h3 h4]; exact relation_4 x s w hX h4
  by_cases h5 : s.toList = [114, 102]
  · rw [relX_5 x s h0 h1 h2 h3 h4 h5]; exact relation_5 x s w hX h5
  by_cases h6 : s.toList = [99, 111]
  · rw [relX_6 x s h0 h1 h2 h3 h4 h5 h6]; exact relation_6 x s w hX h6
  by_cases h7 : s.toList = [102, 114]
  · rw [relX_7 x s h0 h1 h2 h3 h4 h5 h6 h7]; exact relation_7 x s w hX hT h0w h7
  by_cases h8 : s.toList = [114, 102, 101]
  · rw [relX_8 x s h0 h1 h2 h3 h4 h5 h6 h7 h8]; exact relation_8 x s w hX h8
  by_cases h9 : s.toList = [114, 102, 105]
  · rw [relX_9 x s h0 h1 h2 h3 h4 h5 h6 h7 h8 h9]; exact relation_9 x s w hX h9
  by_cases h10 : s.toList = [99, 111, 101]
  · rw [relX_10 x s h0 h1 h2 h3 h4 h5 h6 h7 h8 h9 h10]; exact relation_10 x s w hX h10
  by_cases h11 : s.toList = [99, 111, 105]
  · rw [relX_11 x s h0 h1 h2 h3 h4 h5 h6 h7 h8 h9 h10 h11]; exact relation_11 x s w hX h11
  by_cases h12 : s.toList = [102, 114, 101]
  · rw [relX_12 x s h0 h1 h2 h3 h4 h5 h6 h7 h8 h9 h10 h11 h12]; exact relation_12 x s w hX hT h0w h12
  by_cases h13 : s.toList = [102, 114, 105]
  · rw [relX_13 x s h0 h1 h2 h3 h4 h5 h6 h7 h8 h9 h10 h11 h12 h13]; exact relation_13 x s w hX hT h0w h13
  by_cases h14 : s.toList = [105, 100]
  · rw [relX_14 x s h0 h1 h2 h3 h4 h5 h6 h7 h8 h9 h10 h11 h12 h13 h14]; exact relation_14 x s w hX hl h14
  rw [relX_none x s h0 h1 h2 h3 h4 h5 h6 h7 h8 h9 h10 h11 h12 h13 h14]; exact relation_none x s w hX h0 h1 h2 h3 h4 h5 h6 h7 h8 h9 h10 h11 h12 h13 h14
theorem relation_enters : Enters Tryd.prog 28 := enters_mk Tryd.func28 (by decide) rfl
end Go.Proofs.YtmammebifhmnhaaDoor

/-
  model.set, model.Base. Own work; printed by tools/gen_base.py.
-/
namespace Go.Proofs.YtmammebifhmnhaaDoor
open Go.AM
set_option maxRecDepth 100000

theorem set_0 (x : Xn) (s : ByteArray) (w : World) (hX : SeesX w x) (g0 : s.toList = [73, 87]) :
    Gives Tryd.prog 29 [encX x, .string s] w (.tuple #[encVS (thoseL (fun e => decide (e.kind = 1)) x.ev), .bool true]) := by
  refine Gives.of_run Tryd.func29 rfl (by show 2 ≤ 50; decide) ?_
  have hone := xV_one hX.one1 hX.one4
  have hev : ∀ {w'}, Agree (fun _ => False) w w' → SeesV w' x.pe x.ev := fun hA => hX.ev.agree hA (fun _ _ h => h)
  refine RunF_sound tab_ok noX_local 400 [true] _ _ rfl ?_ ?_
  · simp [sz3, g0]
  refine Run.callFn (r := .int .u64 (un (thoseL (fun e => decide (e.kind = 1)) x.ev))) noX_local rfl rfl rfl rfl rfl rfl rfl of_enters rfl (fun w' hA => of_ok x.pe x.ce x.ev 1 w' (hev hA)) ?_
  generalize thoseL (fun e => decide (e.kind = 1)) x.ev = A1
  refine Run.callFn (r := encVS A1) noX_local rfl rfl rfl rfl rfl rfl rfl isSet_enters rfl (fun w' _ => isSet_ok _ w') ?_
  refine RunF_sound tab_ok noX_local 400 [] _ _ rfl ?_ ?_
  · simp [valS_len]
    exact ⟨valS_one _, rfl⟩
  refine Run.retL tab_ok Tryd.func29 rfl ?_ (fun M => ?_)
  · simp [valS_len]
  rfl

theorem set_1 (x : Xn) (s : ByteArray) (w : World) (hX : SeesX w x) (g1 : s.toList = [87]) :
    Gives Tryd.prog 29 [encX x, .string s] w (.tuple #[encVS (thoseL (fun e => decide (e.kind = 1)) x.ev ||| thoseL (fun e => decide (e.kind = 2)) x.ev), .bool true]) := by
  refine Gives.of_run Tryd.func29 rfl (by show 2 ≤ 50; decide) ?_
  have hone := xV_one hX.one1 hX.one4
  have hev : ∀ {w'}, Agree (fun _ => False) w w' → SeesV w' x.pe x.ev := fun hA => hX.ev.agree hA (fun _ _ h => h)
  refine RunF_sound tab_ok noX_local 400 [false, true] _ _ rfl ?_ ?_
  · simp [sz3, g1]
  refine Run.callFn (r := .int .u64 (un (thoseL (fun e => decide (e.kind = 1)) x.ev))) noX_local rfl rfl rfl rfl rfl rfl rfl of_enters rfl (fun w' hA => of_ok x.pe x.ce x.ev 1 w' (hev hA)) ?_
  generalize thoseL (fun e => decide (e.kind = 1)) x.ev = A1
  refine RunF_sound tab_ok noX_local 400 [] _ _ rfl ?_ ?_
  · simp
  refine Run.callFn (r := .int .u64 (un (thoseL (fun e => decide (e.kind = 2)) x.ev))) noX_local rfl rfl rfl rfl rfl rfl rfl of_enters rfl (fun w' hA => of_ok x.pe x.ce x.ev 2 w' (hev hA)) ?_
  generalize thoseL (fun e => decide (e.kind = 2)) x.ev = A2
  refine RunF_sound tab_ok noX_local 400 [] _ _ rfl ?_ ?_
  · simp
  refine Run.callFn (r := encVS (A1 ||| A2)) noX_local rfl rfl rfl rfl rfl rfl rfl isSet_enters rfl (fun w' _ => ?_) ?_
  · show Gives _ _ [.int .u64 (bor .u64 (un A1) (un A2))] w' _
    rw [bor_un]; exact isSet_ok _ w'
  refine RunF_sound tab_ok noX_local 400 [] _ _ rfl ?_ ?_
  · simp [valS_len]
    exact ⟨valS_one _, rfl⟩
  refine Run.retL tab_ok Tryd.func29 rfl ?_ (fun M => ?_)
  · simp [valS_len]
  rfl

theorem set_2 (x : Xn) (s : ByteArray) (w : World) (hX : SeesX w x) (g2 : s.toList = [82]) :
    Gives Tryd.prog 29 [encX x, .string s] w (.tuple #[encVS (thoseL (fun e => decide (e.kind = 3)) x.ev), .bool true]) := by
  refine Gives.of_run Tryd.func29 rfl (by show 2 ≤ 50; decide) ?_
  have hone := xV_one hX.one1 hX.one4
  have hev : ∀ {w'}, Agree (fun _ => False) w w' → SeesV w' x.pe x.ev := fun hA => hX.ev.agree hA (fun _ _ h => h)
  refine RunF_sound tab_ok noX_local 400 [false, false, true] _ _ rfl ?_ ?_
  · simp [sz3, g2]
  refine Run.callFn (r := .int .u64 (un (thoseL (fun e => decide (e.kind = 3)) x.ev))) noX_local rfl rfl rfl rfl rfl rfl rfl of_enters rfl (fun w' hA => of_ok x.pe x.ce x.ev 3 w' (hev hA)) ?_
  generalize thoseL (fun e => decide (e.kind = 3)) x.ev = A3
  refine Run.callFn (r := encVS A3) noX_local rfl rfl rfl rfl rfl rfl rfl isSet_enters rfl (fun w' _ => isSet_ok _ w') ?_
  refine RunF_sound tab_ok noX_local 400 [] _ _ rfl ?_ ?_
  · simp [valS_len]
    exact ⟨valS_one _, rfl⟩
  refine Run.retL tab_ok Tryd.func29 rfl ?_ (fun M => ?_)
  · simp [valS_len]
  rfl

theorem set_3 (x : Xn) (s : ByteArray) (w : World) (hX : SeesX w x) (g3 : s.toList = [70]) :
    Gives Tryd.prog 29 [encX x, .string s] w (.tuple #[encVS (thoseL (fun e => decide (e.kind = 4)) x.ev), .bool true]) := by
  refine Gives.of_run Tryd.func29 rfl (by show 2 ≤ 50; decide) ?_
  have hone := xV_one hX.one1 hX.one4
  have hev : ∀ {w'}, Agree (fun _ => False) w w' → SeesV w' x.pe x.ev := fun hA => hX.ev.agree hA (fun _ _ h => h)
  refine RunF_sound tab_ok noX_local 400 [false, false, false, true] _ _ rfl ?_ ?_
  · simp [sz3, g3]
  refine Run.callFn (r := .int .u64 (un (thoseL (fun e => decide (e.kind = 4)) x.ev))) noX_local rfl rfl rfl rfl rfl rfl rfl of_enters rfl (fun w' hA => of_ok x.pe x.ce x.ev 4 w' (hev hA)) ?_
  generalize thoseL (fun e => decide (e.kind = 4)) x.ev = A4
  refine Run.callFn (r := encVS A4) noX_local rfl rfl rfl rfl rfl rfl rfl isSet_enters rfl (fun w' _ => isSet_ok _ w') ?_
  refine RunF_sound tab_ok noX_local 400 [] _ _ rfl ?_ ?_
  · simp [valS_len]
    exact ⟨valS_one _, rfl⟩
  refine Run.retL tab_ok Tryd.func29 rfl ?_ (fun M => ?_)
  · simp [valS_len]
  rfl

theorem set_4 (x : Xn) (s : ByteArray) (w : World) (hX : SeesX w x) (g4 : s.toList = [77]) :
    Gives Tryd.prog 29 [encX x, .string s] w (.tuple #[encVS (thoseL memB x.ev), .bool true]) := by
  refine Gives.of_run Tryd.func29 rfl (by show 2 ≤ 50; decide) ?_
  have hone := xV_one hX.one1 hX.one4
  have hev : ∀ {w'}, Agree (fun _ => False) w w' → SeesV w' x.pe x.ev := fun hA => hX.ev.agree hA (fun _ _ h => h)
  refine RunF_sound tab_ok noX_local 400 [false, false, false, false, true] _ _ rfl ?_ ?_
  · simp [sz3, g4]
  refine Run.callFn (r := .int .u64 (un (thoseL memB x.ev))) noX_local rfl rfl rfl rfl rfl rfl rfl memorySet_enters rfl (fun w' hA => memorySet_ok x.pe x.ce x.ev w' (hev hA)) ?_
  generalize thoseL memB x.ev = A
  refine Run.callFn (r := encVS A) noX_local rfl rfl rfl rfl rfl rfl rfl isSet_enters rfl (fun w' _ => isSet_ok _ w') ?_
  refine RunF_sound tab_ok noX_local 400 [] _ _ rfl ?_ ?_
  · simp [valS_len]
    exact ⟨valS_one _, rfl⟩
  refine Run.retL tab_ok Tryd.func29 rfl ?_ (fun M => ?_)
  · simp [valS_len]
  rfl

theorem set_5 (x : Xn) (s : ByteArray) (w : World) (hX : SeesX w x) (g5 : s.toList = [76]) :
    Gives Tryd.prog 29 [encX x, .string s] w (.tuple #[encVS (thoseL (fun e => e.locked) x.ev), .bool true]) := by
  refine Gives.of_run Tryd.func29 rfl (by show 2 ≤ 50; decide) ?_
  have hone := xV_one hX.one1 hX.one4
  have hev : ∀ {w'}, Agree (fun _ => False) w w' → SeesV w' x.pe x.ev := fun hA => hX.ev.agree hA (fun _ _ h => h)
  refine RunF_sound tab_ok noX_local 400 [false, false, false, false, false, true] _ _ rfl ?_ ?_
  · simp [sz3, g5]
  refine Run.callFn (r := .int .u64 (un (thoseL (fun e => e.locked) x.ev))) noX_local rfl rfl rfl rfl rfl rfl rfl lockedSet_enters rfl (fun w' hA => lockedSet_ok x.pe x.ce x.ev w' (hev hA)) ?_
  generalize thoseL (fun e => e.locked) x.ev = A
  refine Run.callFn (r := encVS A) noX_local rfl rfl rfl rfl rfl rfl rfl isSet_enters rfl (fun w' _ => isSet_ok _ w') ?_
  refine RunF_sound tab_ok noX_local 400 [] _ _ rfl ?_ ?_
  · simp [valS_len]
    exact ⟨valS_one _, rfl⟩
  refine Run.retL tab_ok Tryd.func29 rfl ?_ (fun M => ?_)
  · simp [valS_len]
  rfl

theorem set_6 (x : Xn) (s : ByteArray) (w : World) (hX : SeesX w x) (hl : x.ev.length ≤ maxLen) (g6 : s.toList = [95]) :
    Gives Tryd.prog 29 [encX x, .string s] w (.tuple #[encVS (mask ((shortL x.ev).length : Int)), .bool true]) := by
  refine Gives.of_run Tryd.func29 rfl (by show 2 ≤ 50; decide) ?_
  have hone := xV_one hX.one1 hX.one4
  refine RunF_sound tab_ok noX_local 400 [false, false, false, false, false, false, true] _ _ rfl ?_ ?_
  · simp [sz3, g6]
  have hle := shortL_le x.ev
  have hsz : ∀ {w'}, Agree (fun _ => False) w w' → Gives Tryd.prog 70 [encX x] w' (.int .i64 ((shortL x.ev).length : Int)) := fun hA => size_ok x _ (hX.agree hA) hl
  generalize (shortL x.ev).length = n at *
  refine Run.callFn (r := .int .i64 (n : Int)) noX_local rfl rfl rfl rfl rfl rfl rfl size_enters rfl (fun w' hA => hsz hA) ?_
  refine Run.callFn (r := .int .u64 (un (mask (n : Int)))) noX_local rfl rfl rfl rfl rfl rfl rfl every_enters rfl (fun w' hA => every_ok (n : Int) w' (by omega)) ?_
  generalize mask (n : Int) = A
  refine Run.callFn (r := encVS A) noX_local rfl rfl rfl rfl rfl rfl rfl isSet_enters rfl (fun w' _ => isSet_ok _ w') ?_
  refine RunF_sound tab_ok noX_local 400 [] _ _ rfl ?_ ?_
  · simp [valS_len]
    exact ⟨valS_one _, rfl⟩
  refine Run.retL tab_ok Tryd.func29 rfl ?_ (fun M => ?_)
  · simp [valS_len]
  rfl

theorem set_none (x : Xn) (s : ByteArray) (w : World) (hX : SeesX w x) (g0 : ¬ s.toList = [73, 87]) (g1 : ¬ s.toList = [87]) (g2 : ¬ s.toList = [82]) (g3 : ¬ s.toList = [70]) (g4 : ¬ s.toList = [77]) (g5 : ¬ s.toList = [76]) (g6 : ¬ s.toList = [95]) :
    Gives Tryd.prog 29 [encX x, .string s] w (.tuple #[encV0, .bool false]) := by
  refine Gives.of_run Tryd.func29 rfl (by show 2 ≤ 50; decide) ?_
  have hone := xV_one hX.one1 hX.one4
  refine RunF_sound tab_ok noX_local 400 [false, false, false, false, false, false, false] _ _ rfl ?_ ?_
  · simp [segsVals, fillL, Value.cells, sz3, g0, g1, g2, g3, g4, g5, g6]
    exact ⟨⟨by rw [sz1]; simp, by rw [sz2]; simp⟩, fun c hc => List.all_eq_true.1 (show z46.all Value.oneCell' = true from rfl) c hc⟩
  refine Run.retL tab_ok Tryd.func29 rfl ?_ (fun M => ?_)
  · exact ⟨rfl, trivial⟩
  rfl

theorem set_ok (x : Xn) (s : ByteArray) (w : World) (hX : SeesX w x) (hl : x.ev.length ≤ maxLen) :
    Gives Tryd.prog 29 [encX x, .string s] w (setT x s) := by
  unfold setT
  by_cases g0 : s.toList = [73, 87]
  · rw [setX_0 x s g0]; exact set_0 x s w hX g0
  by_cases g1 : s.toList = [87]
  · rw [setX_1 x s g0 g1]; exact set_1 x s w hX g1
  by_cases g2 : s.toList = [82]
  · rw [setX_2 x s g0 g1 g2]; exact set_2 x s w hX g2
  by_cases g3 : s.toList = [70]
  · rw [setX_3 x s g0 g1 g2 g3]; exact set_3 x s w hX g3
  by_cases g4 : s.toList = [77]
  · rw [setX_4 x s g0 g1 g2 g3 g4]; exact set_4 x s w hX g4
  by_cases g5 : s.toList = [76]
  · rw [setX_5 x s g0 g1 g2 g3 g4 g5]; exact set_5 x s w hX g5
  by_cases g6 : s.toList = [95]
  · rw [setX_6 x s g0 g1 g2 g3 g4 g5 g6]; exact set_6 x s w hX hl g6
  rw [setX_none x s g0 g1 g2 g3 g4 g5 g6]; exact set_none x s w hX g0 g1 g2 g3 g4 g5 g6
theorem set_enters : Enters Tryd.prog 29 := enters_mk Tryd.func29 (by decide) rfl

theorem relT_cases (x : Xn) (s : ByteArray) : (∃ r, relX x s = some r ∧ relT x s = .tuple #[encVR r, .bool true] ∧ baseT x s = .tuple #[encVR r, .bool true]) ∨ (relX x s = none ∧ relT x s = .tuple #[encV0, .bool false] ∧ baseT x s = setT x s) := by
  unfold relT baseT
  cases relX x s with
  | some r => exact .inl ⟨r, rfl, rfl, rfl⟩
  | none => exact .inr ⟨rfl, rfl, rfl⟩
theorem v0_one : ∀ c ∈ (Value.int .i64 0 :: (relV (Rl.void 0) ++ [.int .u64 0])), c.oneCell' = true := fun c hc => List.all_eq_true.1 (show List.all (Value.int .i64 0 :: (relV (Rl.void 0) ++ [.int .u64 0])) Value.oneCell' = true from rfl) c hc
theorem setT_form (x : Xn) (s : ByteArray) : ∃ (vs : List Value) (b : Bool), setT x s = .tuple #[.agg vs.toArray, .bool b] ∧ vs.length = 67 ∧ (∀ c ∈ vs, c.oneCell' = true) := by
  unfold setT
  cases setX x s with
  | some t => exact ⟨valS t, true, rfl, valS_len t, valS_one t⟩
  | none => exact ⟨_, false, rfl, rfl, v0_one⟩

theorem base_ok (x : Xn) (s : ByteArray) (w : World) (hX : SeesX w x) (hl : x.ev.length ≤ maxLen) (hT : TabAt w) (h0w : 0 < w.heap.size) :
    Gives Tryd.prog 12 [encX x, .string s] w (baseT x s) := by
  refine Gives.of_run Tryd.func12 rfl (by show 2 ≤ 21; decide) ?_
  have hone := xV_one hX.one1 hX.one4
  have hTA : ∀ {w'}, Agree (fun _ => False) w w' → TabAt w' := fun hA => hT.agree hA (fun f => f)
  have hSA : ∀ {w'}, Agree (fun _ => False) w w' → 0 < w'.heap.size := fun hA => Nat.lt_of_lt_of_le h0w hA.size
  have hrel : ∀ {w'}, Agree (fun _ => False) w w' → Gives Tryd.prog 28 [encX x, .string s] w' (relT x s) := fun hA => relation_ok x s _ (hX.agree hA) hl (hTA hA) (hSA hA)
  have hset : ∀ {w'}, Agree (fun _ => False) w w' → Gives Tryd.prog 29 [encX x, .string s] w' (setT x s) := fun hA => set_ok x s _ (hX.agree hA) hl
  refine RunF_sound tab_ok noX_local 400 [] _ _ rfl ?_ ?_
  · simp [sz3]
  rcases relT_cases x s with ⟨r, _, e2, e3⟩ | ⟨_, e2, e3⟩
  · rw [e2] at hrel
    rw [e3]
    refine Run.callFn (r := .tuple #[encVR r, .bool true]) noX_local rfl rfl rfl rfl rfl rfl rfl relation_enters rfl (fun w' hA => hrel hA) ?_
    refine RunF_sound tab_ok noX_local 400 [true] _ _ rfl ?_ ?_
    · simp [valR_len, sz3, segsVals]
      exact valR_one r
    refine Run.retL tab_ok Tryd.func12 rfl ?_ (fun M => ?_)
    · simp [valR_len]
    rfl
  · rw [e2] at hrel
    rw [e3]
    obtain ⟨vs, b, e4, hvl, hv1⟩ := setT_form x s
    rw [e4] at hset ⊢
    refine Run.callFn (r := .tuple #[encV0, .bool false]) noX_local rfl rfl rfl rfl rfl rfl rfl relation_enters rfl (fun w' hA => hrel hA) ?_
    refine RunF_sound tab_ok noX_local 400 [false] _ _ rfl ?_ ?_
    · simp [sz3, segsVals]
      exact (one_lem0 _).2 trivial
    refine Run.callFn (r := .tuple #[.agg vs.toArray, .bool b]) noX_local rfl rfl rfl rfl rfl rfl rfl set_enters rfl (fun w' hA => hset hA) ?_
    refine RunF_sound tab_ok noX_local 400 [] _ _ rfl ?_ ?_
    · simp [hvl, sz3, segsVals]
      exact hv1
    refine Run.retL tab_ok Tryd.func12 rfl ?_ (fun M => ?_)
    · simp [hvl]
    rfl
theorem base_enters : Enters Tryd.prog 12 := enters_mk Tryd.func12 (by decide) rfl
end Go.Proofs.YtmammebifhmnhaaDoor

/-
  weirref21.Base. Own work; printed by tools/gen_base.py.
-/
namespace Go.Proofs.YtmammebifhmnhaaDoor
open Go.AM
set_option maxRecDepth 100000

theorem shortL_short (xs : List Ev) : shortL (shortL xs) = shortL xs := by
  have := shortL_le xs
  rw [shortL, if_neg (by omega)]
theorem stands_short (k : Int) (xs : List Ev) : standsL k (shortL xs) = standsL k xs := by unfold standsL pairsL; rw [shortL_short]
theorem those_short (T : Ev → Bool) (xs : List Ev) : thoseL T (shortL xs) = thoseL T xs := by unfold thoseL; rw [shortL_short]
theorem rfX_n (x : Xn) : (rfX x).n = ((shortL x.ev).length : Int) := rfP_n _ _ _
theorem coX_n (x : Xn) : (coX x).n = ((shortL x.ev).length : Int) := by
  unfold coX coL
  rw [coL_n]; rfl
theorem frX_n (x : Xn) : (frX x).n = ((shortL x.ev).length : Int) := frL_n _ _ _
theorem rfX_below (x : Xn) : Below' (shortL x.ev).length (rfX x) := rfL_below _
theorem coX_below (x : Xn) : Below' (shortL x.ev).length (coX x) := coL_below (shortL_le _) _ _ (void_below _ _)
theorem frX_below (x : Xn) : Below' (shortL x.ev).length (frX x) := frL_below (rfX_below x) (coX_below x)
theorem rfX_right (x : Xn) : rightL (rfX x) = rfX x := right_below (shortL_le _) (rfX_n x) (rfX_below x)
theorem coX_right (x : Xn) : rightL (coX x) = coX x := right_below (shortL_le _) (coX_n x) (coX_below x)
theorem frX_right (x : Xn) : rightL (frX x) = frX x := right_below (shortL_le _) (frX_n x) (frX_below x)

theorem refBase_0 (x : Xn) (s : ByteArray) (w : World) (hX : SeesX w x)  (h0 : s.toList = [112, 111]) :
    Gives Tryd.prog 13 [encX x, .string s] w (.tuple #[encVR (standsL 1 x.ev), .bool true]) := by
  refine Gives.of_run Tryd.func13 rfl (by show 2 ≤ 146; decide) ?_
  have hone := xV_one hX.one1 hX.one4
  have hle := shortL_le x.ev
  obtain ⟨p', c', e1, hs'⟩ := short_form x.ce hX.ev
  have hev : ∀ {w'}, Agree (fun _ => False) w w' → SeesV w' p' (shortL x.ev) := fun hA => hs'.agree hA (fun _ _ h => h)
  have hst : ∀ {w'} (k : Int), Agree (fun _ => False) w w' → Gives Tryd.prog 31 [.slice p' (shortL x.ev).length c', .int .i64 k] w' (encRel (standsL k x.ev)) := fun k hA => by
    have := refRel_ok k p' c' (shortL x.ev) _ (hev hA)
    rwa [stands_short] at this
  refine RunF_sound tab_ok noX_local 400 [] _ _ rfl ?_ ?_
  · simp [sz3]
  refine Run.callFn noX_local rfl rfl rfl rfl rfl rfl rfl shortR_enters rfl (fun w' _ => shortR_ok x.pe x.ce x.ev w') ?_
  rw [e1]
  refine RunF_sound tab_ok noX_local 400 [] _ _ rfl ?_ ?_
  · simp
  refine Run.callFn (r := encRel (standsL 3 x.ev)) noX_local rfl rfl rfl rfl rfl rfl rfl refRel_enters rfl (fun w' hA => hst 3 hA) ?_
  refine RunF_sound tab_ok noX_local 400 [] _ _ rfl ?_ ?_
  · simp
  refine Run.callFn (r := encRel (standsL 4 x.ev)) noX_local rfl rfl rfl rfl rfl rfl rfl refRel_enters rfl (fun w' hA => hst 4 hA) ?_
  refine RunF_sound tab_ok noX_local 400 [true] _ _ rfl ?_ ?_
  · simp [segsVals, relV_one', h0]
  refine Run.callFn (r := encRel (standsL 1 x.ev)) noX_local rfl rfl rfl rfl rfl rfl rfl refRel_enters rfl (fun w' hA => hst 1 hA) ?_
  refine Run.callFn (r := encVR (standsL 1 x.ev)) noX_local rfl rfl rfl rfl rfl rfl rfl vrel_enters rfl (fun w' _ => vrel_ok _ w') ?_
  refine RunF_sound tab_ok noX_local 400 [] _ _ rfl ?_ ?_
  · simp [valR_len]
    exact ⟨valR_one _, rfl⟩
  refine Run.retL tab_ok Tryd.func13 rfl ?_ (fun M => ?_)
  · simp [valR_len]
  rfl

theorem refBase_1 (x : Xn) (s : ByteArray) (w : World) (hX : SeesX w x)  (h1 : s.toList = [108, 111, 99]) :
    Gives Tryd.prog 13 [encX x, .string s] w (.tuple #[encVR (standsL 2 x.ev), .bool true]) := by
  refine Gives.of_run Tryd.func13 rfl (by show 2 ≤ 146; decide) ?_
  have hone := xV_one hX.one1 hX.one4
  have hle := shortL_le x.ev
  obtain ⟨p', c', e1, hs'⟩ := short_form x.ce hX.ev
  have hev : ∀ {w'}, Agree (fun _ => False) w w' → SeesV w' p' (shortL x.ev) := fun hA => hs'.agree hA (fun _ _ h => h)
  have hst : ∀ {w'} (k : Int), Agree (fun _ => False) w w' → Gives Tryd.prog 31 [.slice p' (shortL x.ev).length c', .int .i64 k] w' (encRel (standsL k x.ev)) := fun k hA => by
    have := refRel_ok k p' c' (shortL x.ev) _ (hev hA)
    rwa [stands_short] at this
  refine RunF_sound tab_ok noX_local 400 [] _ _ rfl ?_ ?_
  · simp [sz3]
  refine Run.callFn noX_local rfl rfl rfl rfl rfl rfl rfl shortR_enters rfl (fun w' _ => shortR_ok x.pe x.ce x.ev w') ?_
  rw [e1]
  refine RunF_sound tab_ok noX_local 400 [] _ _ rfl ?_ ?_
  · simp
  refine Run.callFn (r := encRel (standsL 3 x.ev)) noX_local rfl rfl rfl rfl rfl rfl rfl refRel_enters rfl (fun w' hA => hst 3 hA) ?_
  refine RunF_sound tab_ok noX_local 400 [] _ _ rfl ?_ ?_
  · simp
  refine Run.callFn (r := encRel (standsL 4 x.ev)) noX_local rfl rfl rfl rfl rfl rfl rfl refRel_enters rfl (fun w' hA => hst 4 hA) ?_
  refine RunF_sound tab_ok noX_local 400 [false, true] _ _ rfl ?_ ?_
  · simp [segsVals, relV_one', h1]
  refine Run.callFn (r := encRel (standsL 2 x.ev)) noX_local rfl rfl rfl rfl rfl rfl rfl refRel_enters rfl (fun w' hA => hst 2 hA) ?_
  refine Run.callFn (r := encVR (standsL 2 x.ev)) noX_local rfl rfl rfl rfl rfl rfl rfl vrel_enters rfl (fun w' _ => vrel_ok _ w') ?_
  refine RunF_sound tab_ok noX_local 400 [] _ _ rfl ?_ ?_
  · simp [valR_len]
    exact ⟨valR_one _, rfl⟩
  refine Run.retL tab_ok Tryd.func13 rfl ?_ (fun M => ?_)
  · simp [valR_len]
  rfl

theorem refBase_2 (x : Xn) (s : ByteArray) (w : World) (hX : SeesX w x)  (h2 : s.toList = [105, 110, 116]) :
    Gives Tryd.prog 13 [encX x, .string s] w (.tuple #[encVR (standsL 3 x.ev), .bool true]) := by
  refine Gives.of_run Tryd.func13 rfl (by show 2 ≤ 146; decide) ?_
  have hone := xV_one hX.one1 hX.one4
  have hle := shortL_le x.ev
  obtain ⟨p', c', e1, hs'⟩ := short_form x.ce hX.ev
  have hev : ∀ {w'}, Agree (fun _ => False) w w' → SeesV w' p' (shortL x.ev) := fun hA => hs'.agree hA (fun _ _ h => h)
  have hst : ∀ {w'} (k : Int), Agree (fun _ => False) w w' → Gives Tryd.prog 31 [.slice p' (shortL x.ev).length c', .int .i64 k] w' (encRel (standsL k x.ev)) := fun k hA => by
    have := refRel_ok k p' c' (shortL x.ev) _ (hev hA)
    rwa [stands_short] at this
  refine RunF_sound tab_ok noX_local 400 [] _ _ rfl ?_ ?_
  · simp [sz3]
  refine Run.callFn noX_local rfl rfl rfl rfl rfl rfl rfl shortR_enters rfl (fun w' _ => shortR_ok x.pe x.ce x.ev w') ?_
  rw [e1]
  refine RunF_sound tab_ok noX_local 400 [] _ _ rfl ?_ ?_
  · simp
  refine Run.callFn (r := encRel (standsL 3 x.ev)) noX_local rfl rfl rfl rfl rfl rfl rfl refRel_enters rfl (fun w' hA => hst 3 hA) ?_
  refine RunF_sound tab_ok noX_local 400 [] _ _ rfl ?_ ?_
  · simp
  refine Run.callFn (r := encRel (standsL 4 x.ev)) noX_local rfl rfl rfl rfl rfl rfl rfl refRel_enters rfl (fun w' hA => hst 4 hA) ?_
  refine RunF_sound tab_ok noX_local 400 [false, false, true] _ _ rfl ?_ ?_
  · simp [segsVals, relV_one', h2]
  refine Run.callFn (r := encVR (standsL 3 x.ev)) noX_local rfl rfl rfl rfl rfl rfl rfl vrel_enters rfl (fun w' _ => vrel_ok _ w') ?_
  refine RunF_sound tab_ok noX_local 400 [] _ _ rfl ?_ ?_
  · simp [valR_len]
    exact ⟨valR_one _, rfl⟩
  refine Run.retL tab_ok Tryd.func13 rfl ?_ (fun M => ?_)
  · simp [valR_len]
  rfl

theorem refBase_3 (x : Xn) (s : ByteArray) (w : World) (hX : SeesX w x)  (h3 : s.toList = [101, 120, 116]) :
    Gives Tryd.prog 13 [encX x, .string s] w (.tuple #[encVR (standsL 4 x.ev), .bool true]) := by
  refine Gives.of_run Tryd.func13 rfl (by show 2 ≤ 146; decide) ?_
  have hone := xV_one hX.one1 hX.one4
  have hle := shortL_le x.ev
  obtain ⟨p', c', e1, hs'⟩ := short_form x.ce hX.ev
  have hev : ∀ {w'}, Agree (fun _ => False) w w' → SeesV w' p' (shortL x.ev) := fun hA => hs'.agree hA (fun _ _ h => h)
  have hst : ∀ {w'} (k : Int), Agree (fun _ => False) w w' → Gives Tryd.prog 31 [.slice p' (shortL x.ev).length c', .int .i64 k] w' (encRel (standsL k x.ev)) := fun k hA => by
    have := refRel_ok k p' c' (shortL x.ev) _ (hev hA)
    rwa [stands_short] at this
  refine RunF_sound tab_ok noX_local 400 [] _ _ rfl ?_ ?_
  · simp [sz3]
  refine Run.callFn noX_local rfl rfl rfl rfl rfl rfl rfl shortR_enters rfl (fun w' _ => shortR_ok x.pe x.ce x.ev w') ?_
  rw [e1]
  refine RunF_sound tab_ok noX_local 400 [] _ _ rfl ?_ ?_
  · simp
  refine Run.callFn (r := encRel (standsL 3 x.ev)) noX_local rfl rfl rfl rfl rfl rfl rfl refRel_enters rfl (fun w' hA => hst 3 hA) ?_
  refine RunF_sound tab_ok noX_local 400 [] _ _ rfl ?_ ?_
  · simp
  refine Run.callFn (r := encRel (standsL 4 x.ev)) noX_local rfl rfl rfl rfl rfl rfl rfl refRel_enters rfl (fun w' hA => hst 4 hA) ?_
  refine RunF_sound tab_ok noX_local 400 [false, false, false, true] _ _ rfl ?_ ?_
  · simp [segsVals, relV_one', h3]
  refine Run.callFn (r := encVR (standsL 4 x.ev)) noX_local rfl rfl rfl rfl rfl rfl rfl vrel_enters rfl (fun w' _ => vrel_ok _ w') ?_
  refine RunF_sound tab_ok noX_local 400 [] _ _ rfl ?_ ?_
  · simp [valR_len]
    exact ⟨valR_one _, rfl⟩
  refine Run.retL tab_ok Tryd.func13 rfl ?_ (fun M => ?_)
  · simp [valR_len]
  rfl

theorem refBase_4 (x : Xn) (s : ByteArray) (w : World) (hX : SeesX w x)  (h4 : s.toList = [114, 109, 119]) :
    Gives Tryd.prog 13 [encX x, .string s] w (.tuple #[encVR (standsL 5 x.ev), .bool true]) := by
  refine Gives.of_run Tryd.func13 rfl (by show 2 ≤ 146; decide) ?_
  have hone := xV_one hX.one1 hX.one4
  have hle := shortL_le x.ev
  obtain ⟨p', c', e1, hs'⟩ := short_form x.ce hX.ev
  have hev : ∀ {w'}, Agree (fun _ => False) w w' → SeesV w' p' (shortL x.ev) := fun hA => hs'.agree hA (fun _ _ h => h)
  have hst : ∀ {w'} (k : Int), Agree (fun _ => False) w w' → Gives Tryd.prog 31 [.slice p' (shortL x.ev).length c', .int .i64 k] w' (encRel (standsL k x.ev)) := fun k hA => by
    have := refRel_ok k p' c' (shortL x.ev) _ (hev hA)
    rwa [stands_short] at this
  refine RunF_sound tab_ok noX_local 400 [] _ _ rfl ?_ ?_
  · simp [sz3]
  refine Run.callFn noX_local rfl rfl rfl rfl rfl rfl rfl shortR_enters rfl (fun w' _ => shortR_ok x.pe x.ce x.ev w') ?_
  rw [e1]
  refine RunF_sound tab_ok noX_local 400 [] _ _ rfl ?_ ?_
  · simp
  refine Run.callFn (r := encRel (standsL 3 x.ev)) noX_local rfl rfl rfl rfl rfl rfl rfl refRel_enters rfl (fun w' hA => hst 3 hA) ?_
  refine RunF_sound tab_ok noX_local 400 [] _ _ rfl ?_ ?_
  · simp
  refine Run.callFn (r := encRel (standsL 4 x.ev)) noX_local rfl rfl rfl rfl rfl rfl rfl refRel_enters rfl (fun w' hA => hst 4 hA) ?_
  refine RunF_sound tab_ok noX_local 400 [false, false, false, false, true] _ _ rfl ?_ ?_
  · simp [segsVals, relV_one', h4]
  refine Run.callFn (r := encRel (standsL 5 x.ev)) noX_local rfl rfl rfl rfl rfl rfl rfl refRel_enters rfl (fun w' hA => hst 5 hA) ?_
  refine Run.callFn (r := encVR (standsL 5 x.ev)) noX_local rfl rfl rfl rfl rfl rfl rfl vrel_enters rfl (fun w' _ => vrel_ok _ w') ?_
  refine RunF_sound tab_ok noX_local 400 [] _ _ rfl ?_ ?_
  · simp [valR_len]
    exact ⟨valR_one _, rfl⟩
  refine Run.retL tab_ok Tryd.func13 rfl ?_ (fun M => ?_)
  · simp [valR_len]
  rfl

theorem refBase_5 (x : Xn) (s : ByteArray) (w : World) (hX : SeesX w x)  (h5 : s.toList = [114, 102]) :
    Gives Tryd.prog 13 [encX x, .string s] w (.tuple #[encVR (rfX x), .bool true]) := by
  refine Gives.of_run Tryd.func13 rfl (by show 2 ≤ 146; decide) ?_
  have hone := xV_one hX.one1 hX.one4
  have hle := shortL_le x.ev
  obtain ⟨p', c', e1, hs'⟩ := short_form x.ce hX.ev
  have hev : ∀ {w'}, Agree (fun _ => False) w w' → SeesV w' p' (shortL x.ev) := fun hA => hs'.agree hA (fun _ _ h => h)
  have hst : ∀ {w'} (k : Int), Agree (fun _ => False) w w' → Gives Tryd.prog 31 [.slice p' (shortL x.ev).length c', .int .i64 k] w' (encRel (standsL k x.ev)) := fun k hA => by
    have := refRel_ok k p' c' (shortL x.ev) _ (hev hA)
    rwa [stands_short] at this
  refine RunF_sound tab_ok noX_local 400 [] _ _ rfl ?_ ?_
  · simp [sz3]
  refine Run.callFn noX_local rfl rfl rfl rfl rfl rfl rfl shortR_enters rfl (fun w' _ => shortR_ok x.pe x.ce x.ev w') ?_
  rw [e1]
  refine RunF_sound tab_ok noX_local 400 [] _ _ rfl ?_ ?_
  · simp
  refine Run.callFn (r := encRel (standsL 3 x.ev)) noX_local rfl rfl rfl rfl rfl rfl rfl refRel_enters rfl (fun w' hA => hst 3 hA) ?_
  refine RunF_sound tab_ok noX_local 400 [] _ _ rfl ?_ ?_
  · simp
  refine Run.callFn (r := encRel (standsL 4 x.ev)) noX_local rfl rfl rfl rfl rfl rfl rfl refRel_enters rfl (fun w' hA => hst 4 hA) ?_
  refine RunF_sound tab_ok noX_local 400 [false, false, false, false, false, true] _ _ rfl ?_ ?_
  · simp [segsVals, relV_one', h5]
  refine Run.callFn (r := encRel (rfX x)) noX_local rfl rfl rfl rfl rfl rfl rfl rfR_enters rfl (fun w' hA => rfR_ok x w' (hX.agree hA)) ?_
  refine Run.callFn (r := encVR (rfX x)) noX_local rfl rfl rfl rfl rfl rfl rfl vrel_enters rfl (fun w' _ => vrel_ok _ w') ?_
  refine RunF_sound tab_ok noX_local 400 [] _ _ rfl ?_ ?_
  · simp [valR_len]
    exact ⟨valR_one _, rfl⟩
  refine Run.retL tab_ok Tryd.func13 rfl ?_ (fun M => ?_)
  · simp [valR_len]
  rfl

theorem refBase_6 (x : Xn) (s : ByteArray) (w : World) (hX : SeesX w x)  (h6 : s.toList = [99, 111]) :
    Gives Tryd.prog 13 [encX x, .string s] w (.tuple #[encVR (coX x), .bool true]) := by
  refine Gives.of_run Tryd.func13 rfl (by show 2 ≤ 146; decide) ?_
  have hone := xV_one hX.one1 hX.one4
  have hle := shortL_le x.ev
  obtain ⟨p', c', e1, hs'⟩ := short_form x.ce hX.ev
  have hev : ∀ {w'}, Agree (fun _ => False) w w' → SeesV w' p' (shortL x.ev) := fun hA => hs'.agree hA (fun _ _ h => h)
  have hst : ∀ {w'} (k : Int), Agree (fun _ => False) w w' → Gives Tryd.prog 31 [.slice p' (shortL x.ev).length c', .int .i64 k] w' (encRel (standsL k x.ev)) := fun k hA => by
    have := refRel_ok k p' c' (shortL x.ev) _ (hev hA)
    rwa [stands_short] at this
  refine RunF_sound tab_ok noX_local 400 [] _ _ rfl ?_ ?_
  · simp [sz3]
  refine Run.callFn noX_local rfl rfl rfl rfl rfl rfl rfl shortR_enters rfl (fun w' _ => shortR_ok x.pe x.ce x.ev w') ?_
  rw [e1]
  refine RunF_sound tab_ok noX_local 400 [] _ _ rfl ?_ ?_
  · simp
  refine Run.callFn (r := encRel (standsL 3 x.ev)) noX_local rfl rfl rfl rfl rfl rfl rfl refRel_enters rfl (fun w' hA => hst 3 hA) ?_
  refine RunF_sound tab_ok noX_local 400 [] _ _ rfl ?_ ?_
  · simp
  refine Run.callFn (r := encRel (standsL 4 x.ev)) noX_local rfl rfl rfl rfl rfl rfl rfl refRel_enters rfl (fun w' hA => hst 4 hA) ?_
  refine RunF_sound tab_ok noX_local 400 [false, false, false, false, false, false, true] _ _ rfl ?_ ?_
  · simp [segsVals, relV_one', h6]
  refine Run.callFn (r := encRel (coX x)) noX_local rfl rfl rfl rfl rfl rfl rfl coR_enters rfl (fun w' hA => coR_ok x w' (hX.agree hA)) ?_
  refine Run.callFn (r := encVR (coX x)) noX_local rfl rfl rfl rfl rfl rfl rfl vrel_enters rfl (fun w' _ => vrel_ok _ w') ?_
  refine RunF_sound tab_ok noX_local 400 [] _ _ rfl ?_ ?_
  · simp [valR_len]
    exact ⟨valR_one _, rfl⟩
  refine Run.retL tab_ok Tryd.func13 rfl ?_ (fun M => ?_)
  · simp [valR_len]
  rfl

theorem refBase_7 (x : Xn) (s : ByteArray) (w : World) (hX : SeesX w x)  (h7 : s.toList = [102, 114]) :
    Gives Tryd.prog 13 [encX x, .string s] w (.tuple #[encVR (frX x), .bool true]) := by
  refine Gives.of_run Tryd.func13 rfl (by show 2 ≤ 146; decide) ?_
  have hone := xV_one hX.one1 hX.one4
  have hle := shortL_le x.ev
  obtain ⟨p', c', e1, hs'⟩ := short_form x.ce hX.ev
  have hev : ∀ {w'}, Agree (fun _ => False) w w' → SeesV w' p' (shortL x.ev) := fun hA => hs'.agree hA (fun _ _ h => h)
  have hst : ∀ {w'} (k : Int), Agree (fun _ => False) w w' → Gives Tryd.prog 31 [.slice p' (shortL x.ev).length c', .int .i64 k] w' (encRel (standsL k x.ev)) := fun k hA => by
    have := refRel_ok k p' c' (shortL x.ev) _ (hev hA)
    rwa [stands_short] at this
  refine RunF_sound tab_ok noX_local 400 [] _ _ rfl ?_ ?_
  · simp [sz3]
  refine Run.callFn noX_local rfl rfl rfl rfl rfl rfl rfl shortR_enters rfl (fun w' _ => shortR_ok x.pe x.ce x.ev w') ?_
  rw [e1]
  refine RunF_sound tab_ok noX_local 400 [] _ _ rfl ?_ ?_
  · simp
  refine Run.callFn (r := encRel (standsL 3 x.ev)) noX_local rfl rfl rfl rfl rfl rfl rfl refRel_enters rfl (fun w' hA => hst 3 hA) ?_
  refine RunF_sound tab_ok noX_local 400 [] _ _ rfl ?_ ?_
  · simp
  refine Run.callFn (r := encRel (standsL 4 x.ev)) noX_local rfl rfl rfl rfl rfl rfl rfl refRel_enters rfl (fun w' hA => hst 4 hA) ?_
  refine RunF_sound tab_ok noX_local 400 [false, false, false, false, false, false, false, true] _ _ rfl ?_ ?_
  · simp [segsVals, relV_one', h7]
  refine Run.callFn (r := encRel (frX x)) noX_local rfl rfl rfl rfl rfl rfl rfl frR_enters rfl (fun w' hA => frR_ok x w' (hX.agree hA)) ?_
  refine Run.callFn (r := encVR (frX x)) noX_local rfl rfl rfl rfl rfl rfl rfl vrel_enters rfl (fun w' _ => vrel_ok _ w') ?_
  refine RunF_sound tab_ok noX_local 400 [] _ _ rfl ?_ ?_
  · simp [valR_len]
    exact ⟨valR_one _, rfl⟩
  refine Run.retL tab_ok Tryd.func13 rfl ?_ (fun M => ?_)
  · simp [valR_len]
  rfl

theorem refBase_8 (x : Xn) (s : ByteArray) (w : World) (hX : SeesX w x)  (h8 : s.toList = [114, 102, 101]) :
    Gives Tryd.prog 13 [encX x, .string s] w (.tuple #[encVR (meetL (rfX x) (standsL 4 x.ev)), .bool true]) := by
  refine Gives.of_run Tryd.func13 rfl (by show 2 ≤ 146; decide) ?_
  have hone := xV_one hX.one1 hX.one4
  have hle := shortL_le x.ev
  obtain ⟨p', c', e1, hs'⟩ := short_form x.ce hX.ev
  have hev : ∀ {w'}, Agree (fun _ => False) w w' → SeesV w' p' (shortL x.ev) := fun hA => hs'.agree hA (fun _ _ h => h)
  have hst : ∀ {w'} (k : Int), Agree (fun _ => False) w w' → Gives Tryd.prog 31 [.slice p' (shortL x.ev).length c', .int .i64 k] w' (encRel (standsL k x.ev)) := fun k hA => by
    have := refRel_ok k p' c' (shortL x.ev) _ (hev hA)
    rwa [stands_short] at this
  refine RunF_sound tab_ok noX_local 400 [] _ _ rfl ?_ ?_
  · simp [sz3]
  refine Run.callFn noX_local rfl rfl rfl rfl rfl rfl rfl shortR_enters rfl (fun w' _ => shortR_ok x.pe x.ce x.ev w') ?_
  rw [e1]
  refine RunF_sound tab_ok noX_local 400 [] _ _ rfl ?_ ?_
  · simp
  refine Run.callFn (r := encRel (standsL 3 x.ev)) noX_local rfl rfl rfl rfl rfl rfl rfl refRel_enters rfl (fun w' hA => hst 3 hA) ?_
  refine RunF_sound tab_ok noX_local 400 [] _ _ rfl ?_ ?_
  · simp
  refine Run.callFn (r := encRel (standsL 4 x.ev)) noX_local rfl rfl rfl rfl rfl rfl rfl refRel_enters rfl (fun w' hA => hst 4 hA) ?_
  refine RunF_sound tab_ok noX_local 400 [false, false, false, false, false, false, false, false, true] _ _ rfl ?_ ?_
  · simp [segsVals, relV_one', h8]
  refine Run.drawA noX_local rfl [] [(0, .cells 28 [.vals 5 (xV x)]), (2, .cells 34 [.vals 65 (relV (standsL 3 x.ev))]), (3, .cells 34 [.vals 65 (relV (standsL 4 x.ev))])] rfl rfl ⟨rfl, rfl, rfl, trivial⟩ ?_
  refine RunOF_sound tab_ok noX_local rfl rfl 100 [] _ _ rfl ?_ ?_
  · simp
  refine RunO.callFn (r := encRel (rfX x)) noX_local rfl rfl rfl rfl rfl rfl rfl rfl rfR_enters rfl (fun w' hA => rfR_ok x w' (hX.agree hA)) ?_
  refine RunOF_sound tab_ok noX_local rfl rfl 100 [] _ _ rfl ?_ ?_
  · simp
  refine RunO.callFn (r := encRel (meetL (rfX x) (standsL 4 x.ev))) noX_local rfl rfl rfl rfl rfl rfl rfl rfl pairs4_enters rfl (fun w' hA => ?_) ?_
  · rw [meet_pair hle (rfX_n x) (stands_n 4 x.ev) (rfX_right x) (stands_right 4 x.ev)]
    exact pairs4_ok (rfX x) (standsL 4 x.ev) _ (rfX_n x) hle w'
  generalize meetL (rfX x) (standsL 4 x.ev) = Y
  refine RunOF_sound tab_ok noX_local rfl rfl 100 [] _ _ rfl ?_ ?_
  · simp
  refine RunO.callFn (r := encVR Y) noX_local rfl rfl rfl rfl rfl rfl rfl rfl vrel_enters rfl (fun w' hA => vrel_ok _ w') ?_
  refine RunOF_sound tab_ok noX_local rfl rfl 100 [] _ _ rfl ?_ ?_
  · simp [segsVals, inT, valR_len, sz3]
    exact ⟨valR_one Y, rfl, rfl, rfl⟩
  refine RunO.done ?_
  refine RunF_sound tab_ok noX_local 100 [] _ _ rfl ?_ ?_
  · simp
  refine Run.retL tab_ok Tryd.func13 rfl ?_ (fun M => ?_)
  · simp [valR_len]
  rfl

theorem refBase_9 (x : Xn) (s : ByteArray) (w : World) (hX : SeesX w x)  (h9 : s.toList = [114, 102, 105]) :
    Gives Tryd.prog 13 [encX x, .string s] w (.tuple #[encVR (meetL (rfX x) (standsL 3 x.ev)), .bool true]) := by
  refine Gives.of_run Tryd.func13 rfl (by show 2 ≤ 146; decide) ?_
  have hone := xV_one hX.one1 hX.one4
  have hle := shortL_le x.ev
  obtain ⟨p', c', e1, hs'⟩ := short_form x.ce hX.ev
  have hev : ∀ {w'}, Agree (fun _ => False) w w' → SeesV w' p' (shortL x.ev) := fun hA => hs'.agree hA (fun _ _ h => h)
  have hst : ∀ {w'} (k : Int), Agree (fun _ => False) w w' → Gives Tryd.prog 31 [.slice p' (shortL x.ev).length c', .int .i64 k] w' (encRel (standsL k x.ev)) := fun k hA => by
    have := refRel_ok k p' c' (shortL x.ev) _ (hev hA)
    rwa [stands_short] at this
  refine RunF_sound tab_ok noX_local 400 [] _ _ rfl ?_ ?_
  · simp [sz3]
  refine Run.callFn noX_local rfl rfl rfl rfl rfl rfl rfl shortR_enters rfl (fun w' _ => shortR_ok x.pe x.ce x.ev w') ?_
  rw [e1]
  refine RunF_sound tab_ok noX_local 400 [] _ _ rfl ?_ ?_
  · simp
  refine Run.callFn (r := encRel (standsL 3 x.ev)) noX_local rfl rfl rfl rfl rfl rfl rfl refRel_enters rfl (fun w' hA => hst 3 hA) ?_
  refine RunF_sound tab_ok noX_local 400 [] _ _ rfl ?_ ?_
  · simp
  refine Run.callFn (r := encRel (standsL 4 x.ev)) noX_local rfl rfl rfl rfl rfl rfl rfl refRel_enters rfl (fun w' hA => hst 4 hA) ?_
  refine RunF_sound tab_ok noX_local 400 [false, false, false, false, false, false, false, false, false, true] _ _ rfl ?_ ?_
  · simp [segsVals, relV_one', h9]
  refine Run.drawA noX_local rfl [] [(0, .cells 28 [.vals 5 (xV x)]), (2, .cells 34 [.vals 65 (relV (standsL 3 x.ev))]), (3, .cells 34 [.vals 65 (relV (standsL 4 x.ev))])] rfl rfl ⟨rfl, rfl, rfl, trivial⟩ ?_
  refine RunOF_sound tab_ok noX_local rfl rfl 100 [] _ _ rfl ?_ ?_
  · simp
  refine RunO.callFn (r := encRel (rfX x)) noX_local rfl rfl rfl rfl rfl rfl rfl rfl rfR_enters rfl (fun w' hA => rfR_ok x w' (hX.agree hA)) ?_
  refine RunOF_sound tab_ok noX_local rfl rfl 100 [] _ _ rfl ?_ ?_
  · simp
  refine RunO.callFn (r := encRel (meetL (rfX x) (standsL 3 x.ev))) noX_local rfl rfl rfl rfl rfl rfl rfl rfl pairs4_enters rfl (fun w' hA => ?_) ?_
  · rw [meet_pair hle (rfX_n x) (stands_n 3 x.ev) (rfX_right x) (stands_right 3 x.ev)]
    exact pairs4_ok (rfX x) (standsL 3 x.ev) _ (rfX_n x) hle w'
  generalize meetL (rfX x) (standsL 3 x.ev) = Y
  refine RunOF_sound tab_ok noX_local rfl rfl 100 [] _ _ rfl ?_ ?_
  · simp
  refine RunO.callFn (r := encVR Y) noX_local rfl rfl rfl rfl rfl rfl rfl rfl vrel_enters rfl (fun w' hA => vrel_ok _ w') ?_
  refine RunOF_sound tab_ok noX_local rfl rfl 100 [] _ _ rfl ?_ ?_
  · simp [segsVals, inT, valR_len, sz3]
    exact ⟨valR_one Y, rfl, rfl, rfl⟩
  refine RunO.done ?_
  refine RunF_sound tab_ok noX_local 100 [] _ _ rfl ?_ ?_
  · simp
  refine Run.retL tab_ok Tryd.func13 rfl ?_ (fun M => ?_)
  · simp [valR_len]
  rfl

theorem refBase_10 (x : Xn) (s : ByteArray) (w : World) (hX : SeesX w x)  (h10 : s.toList = [99, 111, 101]) :
    Gives Tryd.prog 13 [encX x, .string s] w (.tuple #[encVR (meetL (coX x) (standsL 4 x.ev)), .bool true]) := by
  refine Gives.of_run Tryd.func13 rfl (by show 2 ≤ 146; decide) ?_
  have hone := xV_one hX.one1 hX.one4
  have hle := shortL_le x.ev
  obtain ⟨p', c', e1, hs'⟩ := short_form x.ce hX.ev
  have hev : ∀ {w'}, Agree (fun _ => False) w w' → SeesV w' p' (shortL x.ev) := fun hA => hs'.agree hA (fun _ _ h => h)
  have hst : ∀ {w'} (k : Int), Agree (fun _ => False) w w' → Gives Tryd.prog 31 [.slice p' (shortL x.ev).length c', .int .i64 k] w' (encRel (standsL k x.ev)) := fun k hA => by
    have := refRel_ok k p' c' (shortL x.ev) _ (hev hA)
    rwa [stands_short] at this
  refine RunF_sound tab_ok noX_local 400 [] _ _ rfl ?_ ?_
  · simp [sz3]
  refine Run.callFn noX_local rfl rfl rfl rfl rfl rfl rfl shortR_enters rfl (fun w' _ => shortR_ok x.pe x.ce x.ev w') ?_
  rw [e1]
  refine RunF_sound tab_ok noX_local 400 [] _ _ rfl ?_ ?_
  · simp
  refine Run.callFn (r := encRel (standsL 3 x.ev)) noX_local rfl rfl rfl rfl rfl rfl rfl refRel_enters rfl (fun w' hA => hst 3 hA) ?_
  refine RunF_sound tab_ok noX_local 400 [] _ _ rfl ?_ ?_
  · simp
  refine Run.callFn (r := encRel (standsL 4 x.ev)) noX_local rfl rfl rfl rfl rfl rfl rfl refRel_enters rfl (fun w' hA => hst 4 hA) ?_
  refine RunF_sound tab_ok noX_local 400 [false, false, false, false, false, false, false, false, false, false, true] _ _ rfl ?_ ?_
  · simp [segsVals, relV_one', h10]
  refine Run.drawA noX_local rfl [] [(0, .cells 28 [.vals 5 (xV x)]), (2, .cells 34 [.vals 65 (relV (standsL 3 x.ev))]), (3, .cells 34 [.vals 65 (relV (standsL 4 x.ev))])] rfl rfl ⟨rfl, rfl, rfl, trivial⟩ ?_
  refine RunOF_sound tab_ok noX_local rfl rfl 100 [] _ _ rfl ?_ ?_
  · simp
  refine RunO.callFn (r := encRel (coX x)) noX_local rfl rfl rfl rfl rfl rfl rfl rfl coR_enters rfl (fun w' hA => coR_ok x w' (hX.agree hA)) ?_
  refine RunOF_sound tab_ok noX_local rfl rfl 100 [] _ _ rfl ?_ ?_
  · simp
  refine RunO.callFn (r := encRel (meetL (coX x) (standsL 4 x.ev))) noX_local rfl rfl rfl rfl rfl rfl rfl rfl pairs4_enters rfl (fun w' hA => ?_) ?_
  · rw [meet_pair hle (coX_n x) (stands_n 4 x.ev) (coX_right x) (stands_right 4 x.ev)]
    exact pairs4_ok (coX x) (standsL 4 x.ev) _ (coX_n x) hle w'
  generalize meetL (coX x) (standsL 4 x.ev) = Y
  refine RunOF_sound tab_ok noX_local rfl rfl 100 [] _ _ rfl ?_ ?_
  · simp
  refine RunO.callFn (r := encVR Y) noX_local rfl rfl rfl rfl rfl rfl rfl rfl vrel_enters rfl (fun w' hA => vrel_ok _ w') ?_
  refine RunOF_sound tab_ok noX_local rfl rfl 100 [] _ _ rfl ?_ ?_
  · simp [segsVals, inT, valR_len, sz3]
    exact ⟨valR_one Y, rfl, rfl, rfl⟩
  refine RunO.done ?_
  refine RunF_sound tab_ok noX_local 100 [] _ _ rfl ?_ ?_
  · simp
  refine Run.retL tab_ok Tryd.func13 rfl ?_ (fun M => ?_)
  · simp [valR_len]
  rfl

theorem refBase_11 (x : Xn) (s : ByteArray) (w : World) (hX : SeesX w x)  (h11 : s.toList = [99, 111, 105]) :
    Gives Tryd.prog 13 [encX x, .string s] w (.tuple #[encVR (meetL (coX x) (standsL 3 x.ev)), .bool true]) := by
  refine Gives.of_run Tryd.func13 rfl (by show 2 ≤ 146; decide) ?_
  have hone := xV_one hX.one1 hX.one4
  have hle := shortL_le x.ev
  obtain ⟨p', c', e1, hs'⟩ := short_form x.ce hX.ev
  have hev : ∀ {w'}, Agree (fun _ => False) w w' → SeesV w' p' (shortL x.ev) := fun hA => hs'.agree hA (fun _ _ h => h)
  have hst : ∀ {w'} (k : Int), Agree (fun _ => False) w w' → Gives Tryd.prog 31 [.slice p' (shortL x.ev).length c', .int .i64 k] w' (encRel (standsL k x.ev)) := fun k hA => by
    have := refRel_ok k p' c' (shortL x.ev) _ (hev hA)
    rwa [stands_short] at this
  refine RunF_sound tab_ok noX_local 400 [] _ _ rfl ?_ ?_
  · simp [sz3]
  refine Run.callFn noX_local rfl rfl rfl rfl rfl rfl rfl shortR_enters rfl (fun w' _ => shortR_ok x.pe x.ce x.ev w') ?_
  rw [e1]
  refine RunF_sound tab_ok noX_local 400 [] _ _ rfl ?_ ?_
  · simp
  refine Run.callFn (r := encRel (standsL 3 x.ev)) noX_local rfl rfl rfl rfl rfl rfl rfl refRel_enters rfl (fun w' hA => hst 3 hA) ?_
  refine RunF_sound tab_ok noX_local 400 [] _ _ rfl ?_ ?_
  · simp
  refine Run.callFn (r := encRel (standsL 4 x.ev)) noX_local rfl rfl rfl rfl rfl rfl rfl refRel_enters rfl (fun w' hA => hst 4 hA) ?_
  refine RunF_sound tab_ok noX_local 400 [false, false, false, false, false, false, false, false, false, false, false, true] _ _ rfl ?_ ?_
  · simp [segsVals, relV_one', h11]
  refine Run.drawA noX_local rfl [] [(0, .cells 28 [.vals 5 (xV x)]), (2, .cells 34 [.vals 65 (relV (standsL 3 x.ev))]), (3, .cells 34 [.vals 65 (relV (standsL 4 x.ev))])] rfl rfl ⟨rfl, rfl, rfl, trivial⟩ ?_
  refine RunOF_sound tab_ok noX_local rfl rfl 100 [] _ _ rfl ?_ ?_
  · simp
  refine RunO.callFn (r := encRel (coX x)) noX_local rfl rfl rfl rfl rfl rfl rfl rfl coR_enters rfl (fun w' hA => coR_ok x w' (hX.agree hA)) ?_
  refine RunOF_sound tab_ok noX_local rfl rfl 100 [] _ _ rfl ?_ ?_
  · simp
  refine RunO.callFn (r := encRel (meetL (coX x) (standsL 3 x.ev))) noX_local rfl rfl rfl rfl rfl rfl rfl rfl pairs4_enters rfl (fun w' hA => ?_) ?_
  · rw [meet_pair hle (coX_n x) (stands_n 3 x.ev) (coX_right x) (stands_right 3 x.ev)]
    exact pairs4_ok (coX x) (standsL 3 x.ev) _ (coX_n x) hle w'
  generalize meetL (coX x) (standsL 3 x.ev) = Y
  refine RunOF_sound tab_ok noX_local rfl rfl 100 [] _ _ rfl ?_ ?_
  · simp
  refine RunO.callFn (r := encVR Y) noX_local rfl rfl rfl rfl rfl rfl rfl rfl vrel_enters rfl (fun w' hA => vrel_ok _ w') ?_
  refine RunOF_sound tab_ok noX_local rfl rfl 100 [] _ _ rfl ?_ ?_
  · simp [segsVals, inT, valR_len, sz3]
    exact ⟨valR_one Y, rfl, rfl, rfl⟩
  refine RunO.done ?_
  refine RunF_sound tab_ok noX_local 100 [] _ _ rfl ?_ ?_
  · simp
  refine Run.retL tab_ok Tryd.func13 rfl ?_ (fun M => ?_)
  · simp [valR_len]
  rfl

theorem refBase_12 (x : Xn) (s : ByteArray) (w : World) (hX : SeesX w x)  (h12 : s.toList = [102, 114, 101]) :
    Gives Tryd.prog 13 [encX x, .string s] w (.tuple #[encVR (meetL (frX x) (standsL 4 x.ev)), .bool true]) := by
  refine Gives.of_run Tryd.func13 rfl (by show 2 ≤ 146; decide) ?_
  have hone := xV_one hX.one1 hX.one4
  have hle := shortL_le x.ev
  obtain ⟨p', c', e1, hs'⟩ := short_form x.ce hX.ev
  have hev : ∀ {w'}, Agree (fun _ => False) w w' → SeesV w' p' (shortL x.ev) := fun hA => hs'.agree hA (fun _ _ h => h)
  have hst : ∀ {w'} (k : Int), Agree (fun _ => False) w w' → Gives Tryd.prog 31 [.slice p' (shortL x.ev).length c', .int .i64 k] w' (encRel (standsL k x.ev)) := fun k hA => by
    have := refRel_ok k p' c' (shortL x.ev) _ (hev hA)
    rwa [stands_short] at this
  refine RunF_sound tab_ok noX_local 400 [] _ _ rfl ?_ ?_
  · simp [sz3]
  refine Run.callFn noX_local rfl rfl rfl rfl rfl rfl rfl shortR_enters rfl (fun w' _ => shortR_ok x.pe x.ce x.ev w') ?_
  rw [e1]
  refine RunF_sound tab_ok noX_local 400 [] _ _ rfl ?_ ?_
  · simp
  refine Run.callFn (r := encRel (standsL 3 x.ev)) noX_local rfl rfl rfl rfl rfl rfl rfl refRel_enters rfl (fun w' hA => hst 3 hA) ?_
  refine RunF_sound tab_ok noX_local 400 [] _ _ rfl ?_ ?_
  · simp
  refine Run.callFn (r := encRel (standsL 4 x.ev)) noX_local rfl rfl rfl rfl rfl rfl rfl refRel_enters rfl (fun w' hA => hst 4 hA) ?_
  refine RunF_sound tab_ok noX_local 400 [false, false, false, false, false, false, false, false, false, false, false, false, true] _ _ rfl ?_ ?_
  · simp [segsVals, relV_one', h12]
  refine Run.drawA noX_local rfl [] [(0, .cells 28 [.vals 5 (xV x)]), (2, .cells 34 [.vals 65 (relV (standsL 3 x.ev))]), (3, .cells 34 [.vals 65 (relV (standsL 4 x.ev))])] rfl rfl ⟨rfl, rfl, rfl, trivial⟩ ?_
  refine RunOF_sound tab_ok noX_local rfl rfl 100 [] _ _ rfl ?_ ?_
  · simp
  refine RunO.callFn (r := encRel (frX x)) noX_local rfl rfl rfl rfl rfl rfl rfl rfl frR_enters rfl (fun w' hA => frR_ok x w' (hX.agree hA)) ?_
  refine RunOF_sound tab_ok noX_local rfl rfl 100 [] _ _ rfl ?_ ?_
  · simp
  refine RunO.callFn (r := encRel (meetL (frX x) (standsL 4 x.ev))) noX_local rfl rfl rfl rfl rfl rfl rfl rfl pairs4_enters rfl (fun w' hA => ?_) ?_
  · rw [meet_pair hle (frX_n x) (stands_n 4 x.ev) (frX_right x) (stands_right 4 x.ev)]
    exact pairs4_ok (frX x) (standsL 4 x.ev) _ (frX_n x) hle w'
  generalize meetL (frX x) (standsL 4 x.ev) = Y
  refine RunOF_sound tab_ok noX_local rfl rfl 100 [] _ _ rfl ?_ ?_
  · simp
  refine RunO.callFn (r := encVR Y) noX_local rfl rfl rfl rfl rfl rfl rfl rfl vrel_enters rfl (fun w' hA => vrel_ok _ w') ?_
  refine RunOF_sound tab_ok noX_local rfl rfl 100 [] _ _ rfl ?_ ?_
  · simp [segsVals, inT, valR_len, sz3]
    exact ⟨valR_one Y, rfl, rfl, rfl⟩
  refine RunO.done ?_
  refine RunF_sound tab_ok noX_local 100 [] _ _ rfl ?_ ?_
  · simp
  refine Run.retL tab_ok Tryd.func13 rfl ?_ (fun M => ?_)
  · simp [valR_len]
  rfl

theorem refBase_13 (x : Xn) (s : ByteArray) (w : World) (hX : SeesX w x)  (h13 : s.toList = [102, 114, 105]) :
    Gives Tryd.prog 13 [encX x, .string s] w (.tuple #[encVR (meetL (frX x) (standsL 3 x.ev)), .bool true]) := by
  refine Gives.of_run Tryd.func13 rfl (by show 2 ≤ 146; decide) ?_
  have hone := xV_one hX.one1 hX.one4
  have hle := shortL_le x.ev
  obtain ⟨p', c', e1, hs'⟩ := short_form x.ce hX.ev
  have hev : ∀ {w'}, Agree (fun _ => False) w w' → SeesV w' p' (shortL x.ev) := fun hA => hs'.agree hA (fun _ _ h => h)
  have hst : ∀ {w'} (k : Int), Agree (fun _ => False) w w' → Gives Tryd.prog 31 [.slice p' (shortL x.ev).length c', .int .i64 k] w' (encRel (standsL k x.ev)) := fun k hA => by
    have := refRel_ok k p' c' (shortL x.ev) _ (hev hA)
    rwa [stands_short] at this
  refine RunF_sound tab_ok noX_local 400 [] _ _ rfl ?_ ?_
  · simp [sz3]
  refine Run.callFn noX_local rfl rfl rfl rfl rfl rfl rfl shortR_enters rfl (fun w' _ => shortR_ok x.pe x.ce x.ev w') ?_
  rw [e1]
  refine RunF_sound tab_ok noX_local 400 [] _ _ rfl ?_ ?_
  · simp
  refine Run.callFn (r := encRel (standsL 3 x.ev)) noX_local rfl rfl rfl rfl rfl rfl rfl refRel_enters rfl (fun w' hA => hst 3 hA) ?_
  refine RunF_sound tab_ok noX_local 400 [] _ _ rfl ?_ ?_
  · simp
  refine Run.callFn (r := encRel (standsL 4 x.ev)) noX_local rfl rfl rfl rfl rfl rfl rfl refRel_enters rfl (fun w' hA => hst 4 hA) ?_
  refine RunF_sound tab_ok noX_local 400 [false, false, false, false, false, false, false, false, false, false, false, false, false, true] _ _ rfl ?_ ?_
  · simp [segsVals, relV_one', h13]
  refine Run.drawA noX_local rfl [] [(0, .cells 28 [.vals 5 (xV x)]), (2, .cells 34 [.vals 65 (relV (standsL 3 x.ev))]), (3, .cells 34 [.vals 65 (relV (standsL 4 x.ev))])] rfl rfl ⟨rfl, rfl, rfl, trivial⟩ ?_
  refine RunOF_sound tab_ok noX_local rfl rfl 100 [] _ _ rfl ?_ ?_
  · simp
  refine RunO.callFn (r := encRel (frX x)) noX_local rfl rfl rfl rfl rfl rfl rfl rfl frR_enters rfl (fun w' hA => frR_ok x w' (hX.agree hA)) ?_
  refine RunOF_sound tab_ok noX_local rfl rfl 100 [] _ _ rfl ?_ ?_
  · simp
  refine RunO.callFn (r := encRel (meetL (frX x) (standsL 3 x.ev))) noX_local rfl rfl rfl rfl rfl rfl rfl rfl pairs4_enters rfl (fun w' hA => ?_) ?_
  · rw [meet_pair hle (frX_n x) (stands_n 3 x.ev) (frX_right x) (stands_right 3 x.ev)]
    exact pairs4_ok (frX x) (standsL 3 x.ev) _ (frX_n x) hle w'
  generalize meetL (frX x) (standsL 3 x.ev) = Y
  refine RunOF_sound tab_ok noX_local rfl rfl 100 [] _ _ rfl ?_ ?_
  · simp
  refine RunO.callFn (r := encVR Y) noX_local rfl rfl rfl rfl rfl rfl rfl rfl vrel_enters rfl (fun w' hA => vrel_ok _ w') ?_
  refine RunOF_sound tab_ok noX_local rfl rfl 100 [] _ _ rfl ?_ ?_
  · simp [segsVals, inT, valR_len, sz3]
    exact ⟨valR_one Y, rfl, rfl, rfl⟩
  refine RunO.done ?_
  refine RunF_sound tab_ok noX_local 100 [] _ _ rfl ?_ ?_
  · simp
  refine Run.retL tab_ok Tryd.func13 rfl ?_ (fun M => ?_)
  · simp [valR_len]
  rfl

theorem refBase_14 (x : Xn) (s : ByteArray) (w : World) (hX : SeesX w x)  (h14 : s.toList = [105, 100]) :
    Gives Tryd.prog 13 [encX x, .string s] w (.tuple #[encVR (onL ((shortL x.ev).length : Int) (mask ((shortL x.ev).length : Int))), .bool true]) := by
  refine Gives.of_run Tryd.func13 rfl (by show 2 ≤ 146; decide) ?_
  have hone := xV_one hX.one1 hX.one4
  have hle := shortL_le x.ev
  obtain ⟨p', c', e1, hs'⟩ := short_form x.ce hX.ev
  have hev : ∀ {w'}, Agree (fun _ => False) w w' → SeesV w' p' (shortL x.ev) := fun hA => hs'.agree hA (fun _ _ h => h)
  have hst : ∀ {w'} (k : Int), Agree (fun _ => False) w w' → Gives Tryd.prog 31 [.slice p' (shortL x.ev).length c', .int .i64 k] w' (encRel (standsL k x.ev)) := fun k hA => by
    have := refRel_ok k p' c' (shortL x.ev) _ (hev hA)
    rwa [stands_short] at this
  refine RunF_sound tab_ok noX_local 400 [] _ _ rfl ?_ ?_
  · simp [sz3]
  refine Run.callFn noX_local rfl rfl rfl rfl rfl rfl rfl shortR_enters rfl (fun w' _ => shortR_ok x.pe x.ce x.ev w') ?_
  rw [e1]
  refine RunF_sound tab_ok noX_local 400 [] _ _ rfl ?_ ?_
  · simp
  refine Run.callFn (r := encRel (standsL 3 x.ev)) noX_local rfl rfl rfl rfl rfl rfl rfl refRel_enters rfl (fun w' hA => hst 3 hA) ?_
  refine RunF_sound tab_ok noX_local 400 [] _ _ rfl ?_ ?_
  · simp
  refine Run.callFn (r := encRel (standsL 4 x.ev)) noX_local rfl rfl rfl rfl rfl rfl rfl refRel_enters rfl (fun w' hA => hst 4 hA) ?_
  refine RunF_sound tab_ok noX_local 400 [false, false, false, false, false, false, false, false, false, false, false, false, false, false, true] _ _ rfl ?_ ?_
  · simp [segsVals, relV_one', h14]
  generalize (shortL x.ev).length = n at *
  refine Run.callFn (r := .int .u64 (un (mask (n : Int)))) noX_local rfl rfl rfl rfl rfl rfl rfl wholeR_enters rfl (fun w' hA => wholeR_ok n hle w') ?_
  refine Run.callFn (r := encRel (onL (n : Int) (mask (n : Int)))) noX_local rfl rfl rfl rfl rfl rfl rfl diag_enters rfl (fun w' hA => diag_ok n hle _ w') ?_
  generalize onL (n : Int) (mask (n : Int)) = Y
  refine Run.callFn (r := encVR Y) noX_local rfl rfl rfl rfl rfl rfl rfl vrel_enters rfl (fun w' _ => vrel_ok _ w') ?_
  refine RunF_sound tab_ok noX_local 400 [] _ _ rfl ?_ ?_
  · simp [valR_len]
    exact ⟨valR_one _, rfl⟩
  refine Run.retL tab_ok Tryd.func13 rfl ?_ (fun M => ?_)
  · simp [valR_len]
  rfl

theorem refBase_15 (x : Xn) (s : ByteArray) (w : World) (hX : SeesX w x)  (h15 : s.toList = [73, 87]) :
    Gives Tryd.prog 13 [encX x, .string s] w (.tuple #[encVS (thoseL (fun e => decide (e.kind = 1)) x.ev), .bool true]) := by
  refine Gives.of_run Tryd.func13 rfl (by show 2 ≤ 146; decide) ?_
  have hone := xV_one hX.one1 hX.one4
  have hle := shortL_le x.ev
  obtain ⟨p', c', e1, hs'⟩ := short_form x.ce hX.ev
  have hev : ∀ {w'}, Agree (fun _ => False) w w' → SeesV w' p' (shortL x.ev) := fun hA => hs'.agree hA (fun _ _ h => h)
  have hst : ∀ {w'} (k : Int), Agree (fun _ => False) w w' → Gives Tryd.prog 31 [.slice p' (shortL x.ev).length c', .int .i64 k] w' (encRel (standsL k x.ev)) := fun k hA => by
    have := refRel_ok k p' c' (shortL x.ev) _ (hev hA)
    rwa [stands_short] at this
  refine RunF_sound tab_ok noX_local 400 [] _ _ rfl ?_ ?_
  · simp [sz3]
  refine Run.callFn noX_local rfl rfl rfl rfl rfl rfl rfl shortR_enters rfl (fun w' _ => shortR_ok x.pe x.ce x.ev w') ?_
  rw [e1]
  refine RunF_sound tab_ok noX_local 400 [] _ _ rfl ?_ ?_
  · simp
  refine Run.callFn (r := encRel (standsL 3 x.ev)) noX_local rfl rfl rfl rfl rfl rfl rfl refRel_enters rfl (fun w' hA => hst 3 hA) ?_
  refine RunF_sound tab_ok noX_local 400 [] _ _ rfl ?_ ?_
  · simp
  refine Run.callFn (r := encRel (standsL 4 x.ev)) noX_local rfl rfl rfl rfl rfl rfl rfl refRel_enters rfl (fun w' hA => hst 4 hA) ?_
  refine RunF_sound tab_ok noX_local 400 [false, false, false, false, false, false, false, false, false, false, false, false, false, false, false, true] _ _ rfl ?_ ?_
  · simp [segsVals, relV_one', h15]
  refine Run.callFn (r := .int .u64 (un (thoseL (fun e => decide (e.kind = 1)) x.ev))) noX_local rfl rfl rfl rfl rfl rfl rfl ofR_enters rfl (fun w' hA => by have := ofR_ok p' c' (shortL x.ev) 1 w' (hev hA); rw [those_short] at this; exact this) ?_
  generalize thoseL (fun e => decide (e.kind = 1)) x.ev = A1
  refine Run.callFn (r := encVS A1) noX_local rfl rfl rfl rfl rfl rfl rfl vset_enters rfl (fun w' _ => vset_ok _ w') ?_
  refine RunF_sound tab_ok noX_local 400 [] _ _ rfl ?_ ?_
  · simp [valS_len]
    exact ⟨valS_one _, rfl⟩
  refine Run.retL tab_ok Tryd.func13 rfl ?_ (fun M => ?_)
  · simp [valS_len]
  rfl

theorem refBase_16 (x : Xn) (s : ByteArray) (w : World) (hX : SeesX w x)  (h16 : s.toList = [87]) :
    Gives Tryd.prog 13 [encX x, .string s] w (.tuple #[encVS (thoseL (fun e => decide (e.kind = 1)) x.ev ||| thoseL (fun e => decide (e.kind = 2)) x.ev), .bool true]) := by
  refine Gives.of_run Tryd.func13 rfl (by show 2 ≤ 146; decide) ?_
  have hone := xV_one hX.one1 hX.one4
  have hle := shortL_le x.ev
  obtain ⟨p', c', e1, hs'⟩ := short_form x.ce hX.ev
  have hev : ∀ {w'}, Agree (fun _ => False) w w' → SeesV w' p' (shortL x.ev) := fun hA => hs'.agree hA (fun _ _ h => h)
  have hst : ∀ {w'} (k : Int), Agree (fun _ => False) w w' → Gives Tryd.prog 31 [.slice p' (shortL x.ev).length c', .int .i64 k] w' (encRel (standsL k x.ev)) := fun k hA => by
    have := refRel_ok k p' c' (shortL x.ev) _ (hev hA)
    rwa [stands_short] at this
  refine RunF_sound tab_ok noX_local 400 [] _ _ rfl ?_ ?_
  · simp [sz3]
  refine Run.callFn noX_local rfl rfl rfl rfl rfl rfl rfl shortR_enters rfl (fun w' _ => shortR_ok x.pe x.ce x.ev w') ?_
  rw [e1]
  refine RunF_sound tab_ok noX_local 400 [] _ _ rfl ?_ ?_
  · simp
  refine Run.callFn (r := encRel (standsL 3 x.ev)) noX_local rfl rfl rfl rfl rfl rfl rfl refRel_enters rfl (fun w' hA => hst 3 hA) ?_
  refine RunF_sound tab_ok noX_local 400 [] _ _ rfl ?_ ?_
  · simp
  refine Run.callFn (r := encRel (standsL 4 x.ev)) noX_local rfl rfl rfl rfl rfl rfl rfl refRel_enters rfl (fun w' hA => hst 4 hA) ?_
  refine RunF_sound tab_ok noX_local 400 [false, false, false, false, false, false, false, false, false, false, false, false, false, false, false, false, true] _ _ rfl ?_ ?_
  · simp [segsVals, relV_one', h16]
  refine Run.callFn (r := .int .u64 (un (thoseL (fun e => decide (e.kind = 1)) x.ev))) noX_local rfl rfl rfl rfl rfl rfl rfl ofR_enters rfl (fun w' hA => by have := ofR_ok p' c' (shortL x.ev) 1 w' (hev hA); rw [those_short] at this; exact this) ?_
  generalize thoseL (fun e => decide (e.kind = 1)) x.ev = A1
  refine RunF_sound tab_ok noX_local 400 [] _ _ rfl ?_ ?_
  · simp
  refine Run.callFn (r := .int .u64 (un (thoseL (fun e => decide (e.kind = 2)) x.ev))) noX_local rfl rfl rfl rfl rfl rfl rfl ofR_enters rfl (fun w' hA => by have := ofR_ok p' c' (shortL x.ev) 2 w' (hev hA); rw [those_short] at this; exact this) ?_
  generalize thoseL (fun e => decide (e.kind = 2)) x.ev = A2
  refine RunF_sound tab_ok noX_local 400 [] _ _ rfl ?_ ?_
  · simp
  refine Run.callFn (r := encVS (A1 ||| A2)) noX_local rfl rfl rfl rfl rfl rfl rfl vset_enters rfl (fun w' _ => ?_) ?_
  · show Gives _ _ [.int .u64 (bor .u64 (un A1) (un A2))] w' _
    rw [bor_un]; exact vset_ok _ w'
  refine RunF_sound tab_ok noX_local 400 [] _ _ rfl ?_ ?_
  · simp [valS_len]
    exact ⟨valS_one _, rfl⟩
  refine Run.retL tab_ok Tryd.func13 rfl ?_ (fun M => ?_)
  · simp [valS_len]
  rfl

theorem refBase_17 (x : Xn) (s : ByteArray) (w : World) (hX : SeesX w x)  (h17 : s.toList = [82]) :
    Gives Tryd.prog 13 [encX x, .string s] w (.tuple #[encVS (thoseL (fun e => decide (e.kind = 3)) x.ev), .bool true]) := by
  refine Gives.of_run Tryd.func13 rfl (by show 2 ≤ 146; decide) ?_
  have hone := xV_one hX.one1 hX.one4
  have hle := shortL_le x.ev
  obtain ⟨p', c', e1, hs'⟩ := short_form x.ce hX.ev
  have hev : ∀ {w'}, Agree (fun _ => False) w w' → SeesV w' p' (shortL x.ev) := fun hA => hs'.agree hA (fun _ _ h => h)
  have hst : ∀ {w'} (k : Int), Agree (fun _ => False) w w' → Gives Tryd.prog 31 [.slice p' (shortL x.ev).length c', .int .i64 k] w' (encRel (standsL k x.ev)) := fun k hA => by
    have := refRel_ok k p' c' (shortL x.ev) _ (hev hA)
    rwa [stands_short] at this
  refine RunF_sound tab_ok noX_local 400 [] _ _ rfl ?_ ?_
  · simp [sz3]
  refine Run.callFn noX_local rfl rfl rfl rfl rfl rfl rfl shortR_enters rfl (fun w' _ => shortR_ok x.pe x.ce x.ev w') ?_
  rw [e1]
  refine RunF_sound tab_ok noX_local 400 [] _ _ rfl ?_ ?_
  · simp
  refine Run.callFn (r := encRel (standsL 3 x.ev)) noX_local rfl rfl rfl rfl rfl rfl rfl refRel_enters rfl (fun w' hA => hst 3 hA) ?_
  refine RunF_sound tab_ok noX_local 400 [] _ _ rfl ?_ ?_
  · simp
  refine Run.callFn (r := encRel (standsL 4 x.ev)) noX_local rfl rfl rfl rfl rfl rfl rfl refRel_enters rfl (fun w' hA => hst 4 hA) ?_
  refine RunF_sound tab_ok noX_local 400 [false, false, false, false, false, false, false, false, false, false, false, false, false, false, false, false, false, true] _ _ rfl ?_ ?_
  · simp [segsVals, relV_one', h17]
  refine Run.callFn (r := .int .u64 (un (thoseL (fun e => decide (e.kind = 3)) x.ev))) noX_local rfl rfl rfl rfl rfl rfl rfl ofR_enters rfl (fun w' hA => by have := ofR_ok p' c' (shortL x.ev) 3 w' (hev hA); rw [those_short] at this; exact this) ?_
  generalize thoseL (fun e => decide (e.kind = 3)) x.ev = A3
  refine Run.callFn (r := encVS A3) noX_local rfl rfl rfl rfl rfl rfl rfl vset_enters rfl (fun w' _ => vset_ok _ w') ?_
  refine RunF_sound tab_ok noX_local 400 [] _ _ rfl ?_ ?_
  · simp [valS_len]
    exact ⟨valS_one _, rfl⟩
  refine Run.retL tab_ok Tryd.func13 rfl ?_ (fun M => ?_)
  · simp [valS_len]
  rfl

theorem refBase_18 (x : Xn) (s : ByteArray) (w : World) (hX : SeesX w x)  (h18 : s.toList = [70]) :
    Gives Tryd.prog 13 [encX x, .string s] w (.tuple #[encVS (thoseL (fun e => decide (e.kind = 4)) x.ev), .bool true]) := by
  refine Gives.of_run Tryd.func13 rfl (by show 2 ≤ 146; decide) ?_
  have hone := xV_one hX.one1 hX.one4
  have hle := shortL_le x.ev
  obtain ⟨p', c', e1, hs'⟩ := short_form x.ce hX.ev
  have hev : ∀ {w'}, Agree (fun _ => False) w w' → SeesV w' p' (shortL x.ev) := fun hA => hs'.agree hA (fun _ _ h => h)
  have hst : ∀ {w'} (k : Int), Agree (fun _ => False) w w' → Gives Tryd.prog 31 [.slice p' (shortL x.ev).length c', .int .i64 k] w' (encRel (standsL k x.ev)) := fun k hA => by
    have := refRel_ok k p' c' (shortL x.ev) _ (hev hA)
    rwa [stands_short] at this
  refine RunF_sound tab_ok noX_local 400 [] _ _ rfl ?_ ?_
  · simp [sz3]
  refine Run.callFn noX_local rfl rfl rfl rfl rfl rfl rfl shortR_enters rfl (fun w' _ => shortR_ok x.pe x.ce x.ev w') ?_
  rw [e1]
  refine RunF_sound tab_ok noX_local 400 [] _ _ rfl ?_ ?_
  · simp
  refine Run.callFn (r := encRel (standsL 3 x.ev)) noX_local rfl rfl rfl rfl rfl rfl rfl refRel_enters rfl (fun w' hA => hst 3 hA) ?_
  refine RunF_sound tab_ok noX_local 400 [] _ _ rfl ?_ ?_
  · simp
  refine Run.callFn (r := encRel (standsL 4 x.ev)) noX_local rfl rfl rfl rfl rfl rfl rfl refRel_enters rfl (fun w' hA => hst 4 hA) ?_
  refine RunF_sound tab_ok noX_local 400 [false, false, false, false, false, false, false, false, false, false, false, false, false, false, false, false, false, false, true] _ _ rfl ?_ ?_
  · simp [segsVals, relV_one', h18]
  refine Run.callFn (r := .int .u64 (un (thoseL (fun e => decide (e.kind = 4)) x.ev))) noX_local rfl rfl rfl rfl rfl rfl rfl ofR_enters rfl (fun w' hA => by have := ofR_ok p' c' (shortL x.ev) 4 w' (hev hA); rw [those_short] at this; exact this) ?_
  generalize thoseL (fun e => decide (e.kind = 4)) x.ev = A4
  refine Run.callFn (r := encVS A4) noX_local rfl rfl rfl rfl rfl rfl rfl vset_enters rfl (fun w' _ => vset_ok _ w') ?_
  refine RunF_sound tab_ok noX_local 400 [] _ _ rfl ?_ ?_
  · simp [valS_len]
    exact ⟨valS_one _, rfl⟩
  refine Run.retL tab_ok Tryd.func13 rfl ?_ (fun M => ?_)
  · simp [valS_len]
  rfl

theorem refBase_19 (x : Xn) (s : ByteArray) (w : World) (hX : SeesX w x)  (h19 : s.toList = [77]) :
    Gives Tryd.prog 13 [encX x, .string s] w (.tuple #[encVS (thoseL memB x.ev), .bool true]) := by
  refine Gives.of_run Tryd.func13 rfl (by show 2 ≤ 146; decide) ?_
  have hone := xV_one hX.one1 hX.one4
  have hle := shortL_le x.ev
  obtain ⟨p', c', e1, hs'⟩ := short_form x.ce hX.ev
  have hev : ∀ {w'}, Agree (fun _ => False) w w' → SeesV w' p' (shortL x.ev) := fun hA => hs'.agree hA (fun _ _ h => h)
  have hst : ∀ {w'} (k : Int), Agree (fun _ => False) w w' → Gives Tryd.prog 31 [.slice p' (shortL x.ev).length c', .int .i64 k] w' (encRel (standsL k x.ev)) := fun k hA => by
    have := refRel_ok k p' c' (shortL x.ev) _ (hev hA)
    rwa [stands_short] at this
  refine RunF_sound tab_ok noX_local 400 [] _ _ rfl ?_ ?_
  · simp [sz3]
  refine Run.callFn noX_local rfl rfl rfl rfl rfl rfl rfl shortR_enters rfl (fun w' _ => shortR_ok x.pe x.ce x.ev w') ?_
  rw [e1]
  refine RunF_sound tab_ok noX_local 400 [] _ _ rfl ?_ ?_
  · simp
  refine Run.callFn (r := encRel (standsL 3 x.ev)) noX_local rfl rfl rfl rfl rfl rfl rfl refRel_enters rfl (fun w' hA => hst 3 hA) ?_
  refine RunF_sound tab_ok noX_local 400 [] _ _ rfl ?_ ?_
  · simp
  refine Run.callFn (r := encRel (standsL 4 x.ev)) noX_local rfl rfl rfl rfl rfl rfl rfl refRel_enters rfl (fun w' hA => hst 4 hA) ?_
  refine RunF_sound tab_ok noX_local 400 [false, false, false, false, false, false, false, false, false, false, false, false, false, false, false, false, false, false, false, true] _ _ rfl ?_ ?_
  · simp [segsVals, relV_one', h19]
  refine Run.callFn (r := .int .u64 (un (thoseL memB x.ev))) noX_local rfl rfl rfl rfl rfl rfl rfl memoryR_enters rfl (fun w' hA => by have := memoryR_ok p' c' (shortL x.ev) w' (hev hA); rw [those_short] at this; exact this) ?_
  generalize thoseL memB x.ev = A
  refine Run.callFn (r := encVS A) noX_local rfl rfl rfl rfl rfl rfl rfl vset_enters rfl (fun w' _ => vset_ok _ w') ?_
  refine RunF_sound tab_ok noX_local 400 [] _ _ rfl ?_ ?_
  · simp [valS_len]
    exact ⟨valS_one _, rfl⟩
  refine Run.retL tab_ok Tryd.func13 rfl ?_ (fun M => ?_)
  · simp [valS_len]
  rfl

theorem refBase_20 (x : Xn) (s : ByteArray) (w : World) (hX : SeesX w x)  (h20 : s.toList = [76]) :
    Gives Tryd.prog 13 [encX x, .string s] w (.tuple #[encVS (thoseL (fun e => e.locked) x.ev), .bool true]) := by
  refine Gives.of_run Tryd.func13 rfl (by show 2 ≤ 146; decide) ?_
  have hone := xV_one hX.one1 hX.one4
  have hle := shortL_le x.ev
  obtain ⟨p', c', e1, hs'⟩ := short_form x.ce hX.ev
  have hev : ∀ {w'}, Agree (fun _ => False) w w' → SeesV w' p' (shortL x.ev) := fun hA => hs'.agree hA (fun _ _ h => h)
  have hst : ∀ {w'} (k : Int), Agree (fun _ => False) w w' → Gives Tryd.prog 31 [.slice p' (shortL x.ev).length c', .int .i64 k] w' (encRel (standsL k x.ev)) := fun k hA => by
    have := refRel_ok k p' c' (shortL x.ev) _ (hev hA)
    rwa [stands_short] at this
  refine RunF_sound tab_ok noX_local 400 [] _ _ rfl ?_ ?_
  · simp [sz3]
  refine Run.callFn noX_local rfl rfl rfl rfl rfl rfl rfl shortR_enters rfl (fun w' _ => shortR_ok x.pe x.ce x.ev w') ?_
  rw [e1]
  refine RunF_sound tab_ok noX_local 400 [] _ _ rfl ?_ ?_
  · simp
  refine Run.callFn (r := encRel (standsL 3 x.ev)) noX_local rfl rfl rfl rfl rfl rfl rfl refRel_enters rfl (fun w' hA => hst 3 hA) ?_
  refine RunF_sound tab_ok noX_local 400 [] _ _ rfl ?_ ?_
  · simp
  refine Run.callFn (r := encRel (standsL 4 x.ev)) noX_local rfl rfl rfl rfl rfl rfl rfl refRel_enters rfl (fun w' hA => hst 4 hA) ?_
  refine RunF_sound tab_ok noX_local 400 [false, false, false, false, false, false, false, false, false, false, false, false, false, false, false, false, false, false, false, false, true] _ _ rfl ?_ ?_
  · simp [segsVals, relV_one', h20]
  refine Run.callFn (r := .int .u64 (un (thoseL (fun e => e.locked) x.ev))) noX_local rfl rfl rfl rfl rfl rfl rfl lockedR_enters rfl (fun w' hA => by have := lockedR_ok p' c' (shortL x.ev) w' (hev hA); rw [those_short] at this; exact this) ?_
  generalize thoseL (fun e => e.locked) x.ev = A
  refine Run.callFn (r := encVS A) noX_local rfl rfl rfl rfl rfl rfl rfl vset_enters rfl (fun w' _ => vset_ok _ w') ?_
  refine RunF_sound tab_ok noX_local 400 [] _ _ rfl ?_ ?_
  · simp [valS_len]
    exact ⟨valS_one _, rfl⟩
  refine Run.retL tab_ok Tryd.func13 rfl ?_ (fun M => ?_)
  · simp [valS_len]
  rfl

theorem refBase_21 (x : Xn) (s : ByteArray) (w : World) (hX : SeesX w x)  (h21 : s.toList = [95]) :
    Gives Tryd.prog 13 [encX x, .string s] w (.tuple #[encVS (mask ((shortL x.ev).length : Int)), .bool true]) := by
  refine Gives.of_run Tryd.func13 rfl (by show 2 ≤ 146; decide) ?_
  have hone := xV_one hX.one1 hX.one4
  have hle := shortL_le x.ev
  obtain ⟨p', c', e1, hs'⟩ := short_form x.ce hX.ev
  have hev : ∀ {w'}, Agree (fun _ => False) w w' → SeesV w' p' (shortL x.ev) := fun hA => hs'.agree hA (fun _ _ h => h)
  have hst : ∀ {w'} (k : Int), Agree (fun _ => False) w w' → Gives Tryd.prog 31 [.slice p' (shortL x.ev).length c', .int .i64 k] w' (encRel (standsL k x.ev)) := fun k hA => by
    have := refRel_ok k p' c' (shortL x.ev) _ (hev hA)
    rwa [stands_short] at this
  refine RunF_sound tab_ok noX_local 400 [] _ _ rfl ?_ ?_
  · simp [sz3]
  refine Run.callFn noX_local rfl rfl rfl rfl rfl rfl rfl shortR_enters rfl (fun w' _ => shortR_ok x.pe x.ce x.ev w') ?_
  rw [e1]
  refine RunF_sound tab_ok noX_local 400 [] _ _ rfl ?_ ?_
  · simp
  refine Run.callFn (r := encRel (standsL 3 x.ev)) noX_local rfl rfl rfl rfl rfl rfl rfl refRel_enters rfl (fun w' hA => hst 3 hA) ?_
  refine RunF_sound tab_ok noX_local 400 [] _ _ rfl ?_ ?_
  · simp
  refine Run.callFn (r := encRel (standsL 4 x.ev)) noX_local rfl rfl rfl rfl rfl rfl rfl refRel_enters rfl (fun w' hA => hst 4 hA) ?_
  refine RunF_sound tab_ok noX_local 400 [false, false, false, false, false, false, false, false, false, false, false, false, false, false, false, false, false, false, false, false, false, true] _ _ rfl ?_ ?_
  · simp [segsVals, relV_one', h21]
  generalize (shortL x.ev).length = n at *
  refine Run.callFn (r := .int .u64 (un (mask (n : Int)))) noX_local rfl rfl rfl rfl rfl rfl rfl wholeR_enters rfl (fun w' hA => wholeR_ok n hle w') ?_
  generalize mask (n : Int) = A
  refine Run.callFn (r := encVS A) noX_local rfl rfl rfl rfl rfl rfl rfl vset_enters rfl (fun w' _ => vset_ok _ w') ?_
  refine RunF_sound tab_ok noX_local 400 [] _ _ rfl ?_ ?_
  · simp [valS_len]
    exact ⟨valS_one _, rfl⟩
  refine Run.retL tab_ok Tryd.func13 rfl ?_ (fun M => ?_)
  · simp [valS_len]
  rfl

theorem refBase_none (x : Xn) (s : ByteArray) (w : World) (hX : SeesX w x) (h0 : ¬ s.toList = [112, 111]) (h1 : ¬ s.toList = [108, 111, 99]) (h2 : ¬ s.toList = [105, 110, 116]) (h3 : ¬ s.toList = [101, 120, 116]) (h4 : ¬ s.toList = [114, 109, 119]) (h5 : ¬ s.toList = [114, 102]) (h6 : ¬ s.toList = [99, 111]) (h7 : ¬ s.toList = [102, 114]) (h8 : ¬ s.toList = [114, 102, 101]) (h9 : ¬ s.toList = [114, 102, 105]) (h10 : ¬ s.toList = [99, 111, 101]) (h11 : ¬ s.toList = [99, 111, 105]) (h12 : ¬ s.toList = [102, 114, 101]) (h13 : ¬ s.toList = [102, 114, 105]) (h14 : ¬ s.toList = [105, 100]) (h15 : ¬ s.toList = [73, 87]) (h16 : ¬ s.toList = [87]) (h17 : ¬ s.toList = [82]) (h18 : ¬ s.toList = [70]) (h19 : ¬ s.toList = [77]) (h20 : ¬ s.toList = [76]) (h21 : ¬ s.toList = [95]) :
    Gives Tryd.prog 13 [encX x, .string s] w (.tuple #[encV0, .bool false]) := by
  refine Gives.of_run Tryd.func13 rfl (by show 2 ≤ 146; decide) ?_
  have hone := xV_one hX.one1 hX.one4
  obtain ⟨p', c', e1, hs'⟩ := short_form x.ce hX.ev
  have hev : ∀ {w'}, Agree (fun _ => False) w w' → SeesV w' p' (shortL x.ev) := fun hA => hs'.agree hA (fun _ _ h => h)
  refine RunF_sound tab_ok noX_local 400 [] _ _ rfl ?_ ?_
  · simp [sz3]
  refine Run.callFn noX_local rfl rfl rfl rfl rfl rfl rfl shortR_enters rfl (fun w' _ => shortR_ok x.pe x.ce x.ev w') ?_
  rw [e1]
  refine RunF_sound tab_ok noX_local 400 [] _ _ rfl ?_ ?_
  · simp
  refine Run.callFn noX_local rfl rfl rfl rfl rfl rfl rfl refRel_enters rfl (fun w' hA => refRel_ok 3 p' c' (shortL x.ev) w' (hev hA)) ?_
  refine RunF_sound tab_ok noX_local 400 [] _ _ rfl ?_ ?_
  · simp
  refine Run.callFn noX_local rfl rfl rfl rfl rfl rfl rfl refRel_enters rfl (fun w' hA => refRel_ok 4 p' c' (shortL x.ev) w' (hev hA)) ?_
  refine RunF_sound tab_ok noX_local 400 [false, false, false, false, false, false, false, false, false, false, false, false, false, false, false, false, false, false, false, false, false, false] _ _ rfl ?_ ?_
  · simp [segsVals, relV_one', fillL, Value.cells, sz3, h0, h1, h2, h3, h4, h5, h6, h7, h8, h9, h10, h11, h12, h13, h14, h15, h16, h17, h18, h19, h20, h21]
    exact ⟨⟨by rw [sz1]; simp, by rw [sz2]; simp⟩, fun c hc => List.all_eq_true.1 (show z46.all Value.oneCell' = true from rfl) c hc⟩
  refine Run.retL tab_ok Tryd.func13 rfl ?_ (fun M => ?_)
  · exact ⟨rfl, trivial⟩
  rfl

theorem refBase_ok (x : Xn) (s : ByteArray) (w : World) (hX : SeesX w x) :
    Gives Tryd.prog 13 [encX x, .string s] w (baseT x s) := by
  unfold baseT
  by_cases h0 : s.toList = [112, 111]
  · rw [relX_0 x s h0]; exact refBase_0 x s w hX h0
  by_cases h1 : s.toList = [108, 111, 99]
  · rw [relX_1 x s h0 h1]; exact refBase_1 x s w hX h1
  by_cases h2 : s.toList = [105, 110, 116]
  · rw [relX_2 x s h0 h1 h2]; exact refBase_2 x s w hX h2
  by_cases h3 : s.toList = [101, 120, 116]
  · rw [relX_3 x s h0 h1 h2 h3]; exact refBase_3 x s w hX h3
  by_cases h4 : s.toList = [114, 109, 119]
  · rw [relX_4 x s h0 h1 h2 h3 h4]; exact refBase_4 x s w hX h4
  by_cases h5 : s.toList = [114, 102]
  · rw [relX_5 x s h0 h1 h2 h3 h4 h5]; exact refBase_5 x s w hX h5
  by_cases h6 : s.toList = [99, 111]
  · rw [relX_6 x s h0 h1 h2 h3 h4 h5 h6]; exact refBase_6 x s w hX h6
  by_cases h7 : s.toList = [102, 114]
  · rw [relX_7 x s h0 h1 h2 h3 h4 h5 h6 h7]; exact refBase_7 x s w hX h7
  by_cases h8 : s.toList = [114, 102, 101]
  · rw [relX_8 x s h0 h1 h2 h3 h4 h5 h6 h7 h8]; exact refBase_8 x s w hX h8
  by_cases h9 : s.toList = [114, 102, 105]
  · rw [relX_9 x s h0 h1 h2 h3 h4 h5 h6 h7 h8 h9]; exact refBase_9 x s w hX h9
  by_cases h10 : s.toList = [99, 111, 101]
  · rw [relX_10 x s h0 h1 h2 h3 h4 h5 h6 h7 h8 h9 h10]; exact refBase_10 x s w hX h10
  by_cases h11 : s.toList = [99, 111, 105]
  · rw [relX_11 x s h0 h1 h2 h3 h4 h5 h6 h7 h8 h9 h10 h11]; exact refBase_11 x s w hX h11
  by_cases h12 : s.toList = [102, 114, 101]
  · rw [relX_12 x s h0 h1 h2 h3 h4 h5 h6 h7 h8 h9 h10 h11 h12]; exact refBase_12 x s w hX h12
  by_cases h13 : s.toList = [102, 114, 105]
  · rw [relX_13 x s h0 h1 h2 h3 h4 h5 h6 h7 h8 h9 h10 h11 h12 h13]; exact refBase_13 x s w hX h13
  by_cases h14 : s.toList = [105, 100]
  · rw [relX_14 x s h0 h1 h2 h3 h4 h5 h6 h7 h8 h9 h10 h11 h12 h13 h14]; exact refBase_14 x s w hX h14
  rw [relX_none x s h0 h1 h2 h3 h4 h5 h6 h7 h8 h9 h10 h11 h12 h13 h14]
  unfold setT
  by_cases h15 : s.toList = [73, 87]
  · rw [setX_0 x s h15]; exact refBase_15 x s w hX h15
  by_cases h16 : s.toList = [87]
  · rw [setX_1 x s h15 h16]; exact refBase_16 x s w hX h16
  by_cases h17 : s.toList = [82]
  · rw [setX_2 x s h15 h16 h17]; exact refBase_17 x s w hX h17
  by_cases h18 : s.toList = [70]
  · rw [setX_3 x s h15 h16 h17 h18]; exact refBase_18 x s w hX h18
  by_cases h19 : s.toList = [77]
  · rw [setX_4 x s h15 h16 h17 h18 h19]; exact refBase_19 x s w hX h19
  by_cases h20 : s.toList = [76]
  · rw [setX_5 x s h15 h16 h17 h18 h19 h20]; exact refBase_20 x s w hX h20
  by_cases h21 : s.toList = [95]
  · rw [setX_6 x s h15 h16 h17 h18 h19 h20 h21]; exact refBase_21 x s w hX h21
  rw [setX_none x s h15 h16 h17 h18 h19 h20 h21]; exact refBase_none x s w hX h0 h1 h2 h3 h4 h5 h6 h7 h8 h9 h10 h11 h12 h13 h14 h15 h16 h17 h18 h19 h20 h21
theorem refBase_enters : Enters Tryd.prog 13 := enters_mk Tryd.func13 (by decide) rfl
end Go.Proofs.YtmammebifhmnhaaDoor

/-
  ModelBases answers true. Own work.
-/
namespace Go.Proofs.YtmammebifhmnhaaDoor
open Go.AM
set_option maxRecDepth 100000

def nmV (l : List UInt8) : Value := .string ⟨l.toArray⟩
def nms (s : ByteArray) : List ByteArray := [⟨#[112, 111]⟩, ⟨#[108, 111, 99]⟩, ⟨#[105, 110, 116]⟩, ⟨#[101, 120, 116]⟩, ⟨#[114, 109, 119]⟩, ⟨#[114, 102]⟩, ⟨#[114, 102, 101]⟩, ⟨#[114, 102, 105]⟩, ⟨#[99, 111]⟩, ⟨#[99, 111, 101]⟩, ⟨#[99, 111, 105]⟩, ⟨#[102, 114]⟩, ⟨#[102, 114, 101]⟩, ⟨#[102, 114, 105]⟩, ⟨#[105, 100]⟩, ⟨#[87]⟩, ⟨#[73, 87]⟩, ⟨#[82]⟩, ⟨#[77]⟩, ⟨#[70]⟩, ⟨#[76]⟩, ⟨#[95]⟩, s]
def encSs (l : List ByteArray) : List Value := l.map Value.string

/-- A value: its sort, its relation, its set. -/
def valG (a : Int) (r : Rl) (c : BitVec 64) : List Value := .int .i64 a :: (relV r ++ [.int .u64 (un c)])

theorem gP0 (a : Int) (r : Rl) (c : BitVec 64) (w : World) : (part 3 (valG a r c).toArray 0).run Tryd.prog w = .ok (.int .i64 a) w :=
  part_run tab_ok (t := 3) (vs := (valG a r c).toArray) (j := 0) (p := _) (x := .int .i64 a) rfl (by simp [valG]) w
theorem gP1 (a : Int) (r : Rl) (c : BitVec 64) (w : World) : (part 34 (valG a r c).toArray 1).run Tryd.prog w = .ok (.agg (relV r).toArray) w := by
  have := part_run tab_ok (P := Tryd.prog) (t := 34) (vs := (valG a r c).toArray) (j := 1) (p := _) (x := _) rfl (by simp [valG]) w
  have e : ((valG a r c).toArray.toList.drop 1).take 65 = relV r := by simp [valG]
  rw [e] at this
  exact this
theorem gP2 (a : Int) (r : Rl) (c : BitVec 64) (w : World) : (part 44 (valG a r c).toArray 66).run Tryd.prog w = .ok (.int .u64 (un c)) w := by
  have h : (valG a r c)[66]? = some (.int .u64 (un c)) := by
    rw [valG, List.getElem?_cons_succ, List.getElem?_append_right (by simp)]; simp
  have hi : intAt (valG a r c) 66 = un c := by unfold intAt; rw [h]
  have := part_run tab_ok (P := Tryd.prog) (t := 44) (vs := (valG a r c).toArray) (j := 66) (p := _) (x := _) rfl (by rw [show (valG a r c).toArray.toList = valG a r c by simp, h, hi]) w
  rw [this, show (valG a r c).toArray.toList = valG a r c by simp, hi]

theorem eqRowG (r : Rl) (w : World) : ∀ (is : List Nat), (∀ i ∈ is, i < 64) → (Op.eqItems 9997 31 1 (rowV r).toArray (rowV r).toArray is).run Tryd.prog w = .ok true w
  | [], _ => by simp [Op.eqItems]
  | i :: is, h => by
    have hi : i < 64 := h i (by simp)
    have hu := tab_undP tab_ok (t := 31) (d := .int .u64) rfl
    have p : ∀ r : Rl, (part 31 (rowV r).toArray i).run Tryd.prog w = .ok (.int .u64 (un (r.row i))) w := fun r => by
      have := part_run tab_ok (P := Tryd.prog) (t := 31) (vs := (rowV r).toArray) (j := i) (p := _) (x := _) rfl (by rw [rowV_get r i hi, intAt_rowV r i hi]) w
      rw [this, intAt_rowV r i hi]
    have he : ∀ x y : Int, (Op.equalIn 9997 31 (.int .u64 x) (.int .u64 y)).run Tryd.prog w = .ok (x == y) w := fun x y => run_equalIn_int w 9996 _ _ _ _ _ hu
    have ih := eqRowG r w is (fun j hj => h j (by simp [hj]))
    simp [Op.eqItems, p, he, ih]

theorem eqRowsG (r : Rl) (w : World) : (Op.equalIn 9998 32 (.agg (rowV r).toArray) (.agg (rowV r).toArray)).run Tryd.prog w = .ok true w := by
  have ha := tab_undP tab_ok (t := 32) (d := .array 64 31) rfl
  obtain ⟨i, hinfo⟩ : ∃ i, Tryd.prog.info? 31 = some i := by
    obtain ⟨_, x, hx, _⟩ := tab_ok 31 _ (rfl : lk tab 31 = some _)
    exact ⟨x, hx⟩
  have hc : Tryd.prog.cellsOf 31 = 1 := by kernel_rfl
  rw [run_equalIn_array w 9997 _ _ ha hinfo, hc]
  exact eqRowG r w (List.range 64) (fun i hi => List.mem_range.1 hi)

theorem eqRelG (r : Rl) (w : World) : (Op.equalIn 9999 34 (.agg (relV r).toArray) (.agg (relV r).toArray)).run Tryd.prog w = .ok true w := by
  have hu := tab_undP tab_ok (t := 34) (d := .struct #[{ name := "N", type := 3, offset := 0, embedded := false, tag := "", pkgPath := "", byteOffset := 0 }, { name := "Rows", type := 32, offset := 1, embedded := false, tag := "", pkgPath := "", byteOffset := 8 }]) rfl
  have hf : Tryd.prog.fieldsOf 34 = #[{ name := "N", type := 3, offset := 0, embedded := false, tag := "", pkgPath := "", byteOffset := 0 }, { name := "Rows", type := 32, offset := 1, embedded := false, tag := "", pkgPath := "", byteOffset := 8 }] := by simp [Program.fieldsOf, hu]
  rw [run_equalIn_struct w 9998 _ _ _ (by rw [hf]; exact hu) (by kernel_rfl), hf]
  have hi := tab_undP tab_ok (t := 3) (d := .int .i64) rfl
  have he : (Op.equalIn 9998 3 (.int .i64 r.n) (.int .i64 r.n)).run Tryd.prog w = .ok (r.n == r.n) w := run_equalIn_int w 9997 _ _ _ _ _ hi
  have hr := eqRowsG r w
  have e : true = ((r.n == r.n) && (true && true)) := by simp
  rw [e]
  exact eqFields_cons (by decide) (relP0 r w) (relP0 r w) he fun _ => eqFields_cons (by decide) (relP1 r w) (relP1 r w) hr fun _ => by simp [Op.eqFields]

theorem eqVal (a : Int) (r : Rl) (c : BitVec 64) : EqT Tryd.prog 46 (valG a r c).toArray (valG a r c).toArray true := by
  refine ⟨by kernel_rfl, fun w => ?_⟩
  have hu := tab_undP tab_ok (t := 46) (d := .struct #[{ name := "Sort", type := 3, offset := 0, embedded := false, tag := "", pkgPath := "", byteOffset := 0 }, { name := "Rel", type := 34, offset := 1, embedded := false, tag := "", pkgPath := "", byteOffset := 8 }, { name := "Set", type := 44, offset := 66, embedded := false, tag := "", pkgPath := "", byteOffset := 528 }]) rfl
  have hf : Tryd.prog.fieldsOf 46 = #[{ name := "Sort", type := 3, offset := 0, embedded := false, tag := "", pkgPath := "", byteOffset := 0 }, { name := "Rel", type := 34, offset := 1, embedded := false, tag := "", pkgPath := "", byteOffset := 8 }, { name := "Set", type := 44, offset := 66, embedded := false, tag := "", pkgPath := "", byteOffset := 528 }] := by simp [Program.fieldsOf, hu]
  rw [run_equalIn_struct w 9999 _ _ _ (by rw [hf]; exact hu) (by kernel_rfl), hf]
  have hi := tab_undP tab_ok (t := 3) (d := .int .i64) rfl
  have hs := tab_undP tab_ok (t := 44) (d := .int .u64) rfl
  have he : (Op.equalIn 9999 3 (.int .i64 a) (.int .i64 a)).run Tryd.prog w = .ok (a == a) w := run_equalIn_int w 9998 _ _ _ _ _ hi
  have hg : (Op.equalIn 9999 44 (.int .u64 (un c)) (.int .u64 (un c))).run Tryd.prog w = .ok (un c == un c) w := run_equalIn_int w 9998 _ _ _ _ _ hs
  have hr := eqRelG r w
  have e : true = ((a == a) && (true && ((un c == un c) && true))) := by simp
  rw [e]
  exact eqFields_cons (by decide) (gP0 a r c w) (gP0 a r c w) he fun _ => eqFields_cons (by decide) (gP1 a r c w) (gP1 a r c w) hr fun _ =>
    eqFields_cons (by decide) (gP2 a r c w) (gP2 a r c w) hg fun _ => by simp [Op.eqFields]

theorem valG_one (a : Int) (r : Rl) (c : BitVec 64) : ∀ v ∈ valG a r c, v.oneCell' = true := fun v hv => by
  simp only [valG, List.mem_cons, List.mem_append, List.not_mem_nil, or_false] at hv
  rcases hv with rfl | hv | rfl
  · rfl
  · exact (relV_one' _).2 trivial v hv
  · rfl

theorem baseT_form (x : Xn) (s : ByteArray) : ∃ (vs : List Value) (b : Bool), baseT x s = .tuple #[.agg vs.toArray, .bool b] ∧ vs.length = 67 ∧ (∀ c ∈ vs, c.oneCell' = true) ∧ EqT Tryd.prog 46 vs.toArray vs.toArray true := by
  have key : ∀ (a : Int) (r : Rl) (c : BitVec 64) (b : Bool) (v : Value), v = .tuple #[.agg (valG a r c).toArray, .bool b] → ∃ (vs : List Value) (b : Bool), v = .tuple #[.agg vs.toArray, .bool b] ∧ vs.length = 67 ∧ (∀ c ∈ vs, c.oneCell' = true) ∧ EqT Tryd.prog 46 vs.toArray vs.toArray true :=
    fun a r c b v h => ⟨valG a r c, b, h, by simp [valG], valG_one a r c, eqVal a r c⟩
  unfold baseT setT
  cases relX x s with
  | some r => exact key 1 r 0#64 true _ rfl
  | none =>
    cases setX x s with
    | some t => exact key 2 (Rl.void 0) t true _ rfl
    | none => exact key 0 (Rl.void 0) 0#64 false _ rfl

theorem bases_ok (x : Xn) (s : ByteArray) (w : World) (hX : SeesX w x) (hl : x.ev.length ≤ maxLen) (hT : TabAt w) (h0w : 0 < w.heap.size) :
    Gives Tryd.prog 4 [encX x, .string s] w (.bool true) := by
  refine Gives.of_run Tryd.func4 rfl (by show 2 ≤ 45; decide) ?_
  have hone := xV_one hX.one1 hX.one4
  have hTA : ∀ {w'}, Agree (fun _ => False) w w' → TabAt w' := fun hA => hT.agree hA (fun f => f)
  have hSA : ∀ {w'}, Agree (fun _ => False) w w' → 0 < w'.heap.size := fun hA => Nat.lt_of_lt_of_le h0w hA.size
  refine RunF_sound tab_ok noX_local 400 [] _ _ rfl ?_ ?_
  · have hr : (repL 23 [Value.string { data := #[] }]).length = 23 := rfl
    simp [fillL, Value.cells, splice, hr]
    decide
  have hlen : (nms s).length = 23 := rfl
  suffices H : ∀ (d k : Nat), k + d = 23 → ∀ σ, inT σ.t [(2, .ptr 0 0), (5, .sl 1 1 0 23), (6, .v (.int .i64 (k : Int)))] → inT σ.h [(0, .cells 28 [.vals 5 (xV x)]), (1, .row 9 1 23 (encSs (nms s)))] → Run _ _ σ by
    exact H 23 0 (by omega) _ ⟨rfl, rfl, rfl, trivial⟩ ⟨rfl, rfl, trivial⟩
  generalize nms s = L at hlen
  intro d
  induction d with
  | zero =>
    intro k hk σ ht hh
    refine Run.to ?_ ht hh (n' := 2)
    refine RunF_sound tab_ok noX_local 100 [false] _ _ rfl ?_ ?_
    · simp; omega
    exact Run.retP tab_ok Tryd.func4 rfl trivial (fun M => rfl)
  | succ d ih =>
    intro k hk σ ht hh
    refine Run.to ?_ ht hh (n' := 2)
    have hkl : k < L.length := by omega
    obtain ⟨vs, b, e, hvl, hv1, hEq⟩ := baseT_form x L[k]
    have h1 : ∀ {w'}, Agree (fun _ => False) w w' → Gives Tryd.prog 12 [encX x, .string L[k]] w' (.tuple #[.agg vs.toArray, .bool b]) := fun hA => by rw [← e]; exact base_ok x _ _ (hX.agree hA) hl (hTA hA) (hSA hA)
    have h2 : ∀ {w'}, Agree (fun _ => False) w w' → Gives Tryd.prog 13 [encX x, .string L[k]] w' (.tuple #[.agg vs.toArray, .bool b]) := fun hA => by rw [← e]; exact refBase_ok x _ _ (hX.agree hA)
    have hstr : strAt (encSs L) k = L[k] := by
      unfold strAt encSs
      rw [List.getElem?_map, List.getElem?_eq_getElem hkl]; rfl
    refine RunF_sound tab_ok noX_local 100 [true] _ _ rfl ?_ ?_
    · simp; omega
    have hq : L[k]? = some (strAt (List.map Value.string L) k) := by rw [show strAt (List.map Value.string L) k = L[k] from hstr, List.getElem?_eq_getElem hkl]
    refine' Run.join (todo' := _) [(2, .ptr 0 0), (5, .sl 1 1 0 23), (6, .v (.int .i64 (k : Int))), (7, .ptr 2 0), (8, .v (.bool b))] [(0, .cells 28 [.vals 5 (xV x)]), (1, .row 9 1 23 (encSs L)), (2, .cells 46 [.vals 67 vs])] 3 ?_ ?_
    rotate_left
    · intro J
      refine Run.drawF noX_local rfl 5 9 rfl [] [(0, .cells 28 [.vals 5 (xV x)]), (1, .row 9 1 23 (encSs L))] rfl rfl rfl rfl ⟨rfl, rfl, trivial⟩ ?_ ?_
      all_goals
        refine RunOF_sound tab_ok noX_local rfl rfl 100 [] _ _ rfl ?_ ?_
        · simp [inT, encSs]
          first | exact ⟨by omega, hq⟩ | exact ⟨by omega, hq, rfl, rfl, rfl⟩ | exact ⟨by omega, hq, rfl, rfl, rfl, rfl⟩
        refine RunO.callFn (r := .tuple #[.agg vs.toArray, .bool b]) noX_local rfl rfl rfl rfl rfl rfl rfl rfl base_enters rfl (fun w' hA => ?_) ?_
        · simp only [Nat.zero_add, Nat.mul_one, Int.toNat_natCast, hstr]
          exact h1 hA
        refine RunOF_sound tab_ok noX_local rfl rfl 100 [] _ _ rfl ?_ ?_
        · simp [inT, hvl, sz3]
          first | exact ⟨⟨rfl, rfl⟩, ⟨hv1, rfl⟩, rfl, rfl⟩ | exact ⟨⟨hv1, rfl⟩, rfl, rfl⟩
        refine RunO.done ?_
        refine J _ ?_ ?_
        · exact ⟨⟨_, rfl, fun M => rfl⟩, ⟨_, rfl, fun M => rfl⟩, ⟨_, rfl, fun M => rfl⟩, ⟨_, rfl, fun M => rfl⟩, ⟨_, rfl, fun M => rfl⟩, trivial⟩
        · refine ⟨?_, ?_, ?_, trivial⟩ <;> rfl
    refine RunF_sound tab_ok noX_local 100 [] _ _ rfl ?_ ?_
    · simp
    refine' Run.join (todo' := _) [(2, .ptr 0 0), (5, .sl 1 1 0 23), (6, .v (.int .i64 (k : Int))), (7, .ptr 2 0), (8, .v (.bool b)), (9, .ptr 3 0), (10, .v (.bool b))] [(0, .cells 28 [.vals 5 (xV x)]), (1, .row 9 1 23 (encSs L)), (2, .cells 46 [.vals 67 vs]), (3, .cells 46 [.vals 67 vs])] 4 ?_ ?_
    rotate_left
    · intro J
      refine Run.drawF noX_local rfl 5 9 rfl [] [(0, .cells 28 [.vals 5 (xV x)]), (1, .row 9 1 23 (encSs L))] rfl rfl rfl rfl ⟨rfl, rfl, trivial⟩ ?_ ?_
      all_goals
        refine RunOF_sound tab_ok noX_local rfl rfl 100 [] _ _ rfl ?_ ?_
        · simp [inT, encSs]
          first | exact ⟨by omega, hq⟩ | exact ⟨by omega, hq, rfl, rfl, rfl⟩ | exact ⟨by omega, hq, rfl, rfl, rfl, rfl⟩
        refine RunO.callFn (r := .tuple #[.agg vs.toArray, .bool b]) noX_local rfl rfl rfl rfl rfl rfl rfl rfl refBase_enters rfl (fun w' hA => ?_) ?_
        · simp only [Nat.zero_add, Nat.mul_one, Int.toNat_natCast, hstr]
          exact h2 hA
        refine RunOF_sound tab_ok noX_local rfl rfl 100 [] _ _ rfl ?_ ?_
        · simp [inT, hvl, sz3]
          first | exact ⟨⟨rfl, rfl⟩, ⟨hv1, rfl⟩, rfl, rfl⟩ | exact ⟨⟨hv1, rfl⟩, rfl, rfl⟩
        refine RunO.done ?_
        refine J _ ?_ ?_
        · exact ⟨⟨_, rfl, fun M => rfl⟩, ⟨_, rfl, fun M => rfl⟩, ⟨_, rfl, fun M => rfl⟩, ⟨_, rfl, fun M => rfl⟩, ⟨_, rfl, fun M => rfl⟩, ⟨_, rfl, fun M => rfl⟩, ⟨_, rfl, fun M => rfl⟩, trivial⟩
        · refine ⟨?_, ?_, ?_, ?_, trivial⟩ <;> rfl
    refine RunF_sound tab_ok noX_local 100 [] _ _ rfl ?_ ?_
    · simp [hvl]
      trace_state
    refine Run.cmp rfl rfl rfl rfl rfl rfl (b := true) (c := false) hEq (.inr ⟨rfl, rfl⟩) ?_
    refine RunF_sound tab_ok noX_local 100 [false, false] _ _ rfl ?_ ?_
    · simp
    exact ih (k + 1) (by omega) _ ⟨rfl, rfl, i64_eq (wrap_succ (by omega)), trivial⟩ ⟨rfl, rfl, trivial⟩
theorem bases_enters : Enters Tryd.prog 4 := enters_mk Tryd.func4 (by decide) rfl
end Go.Proofs.YtmammebifhmnhaaDoor
