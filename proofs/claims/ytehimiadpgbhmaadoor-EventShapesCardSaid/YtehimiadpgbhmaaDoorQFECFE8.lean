/-
  Own work, merged: Tab, R1, LPOP.
-/
import Derived.AtR
import Derived.Below
import Derived.ChangeKeysEq
import Derived.KernelRfl
import Derived.Laws.AppendOwn
import Derived.Laws.BytesString
import Derived.Laws.Cells
import Derived.Laws.CopyRow
import Derived.Laws.Entries
import Derived.Laws.Rows
import Derived.Laws.Small
import Derived.Laws.StructEq
import Derived.Maps.AppendAt
import Derived.Orders
import Derived.RangeFuncRecord
import Derived.Test.YtehimiadpgbhmaaDoorProg
import Derived.Test.YtehimiadpgbhmaaDoorQEC5D2D
/- The table of this seat's types, as the program has them. Printed by a program of our own off the translation. -/
namespace Go.Proofs.YtehimiadpgbhmaaDoor
open Go.AM

def ti1 : TI := ⟨.func #[] #[] false, 1, 8, .nilFunc⟩
def ti2 : TI := ⟨.int .i64, 1, 8, (.int .i64 0)⟩
def ti3 : TI := ⟨.int .i64, 1, 8, (.int .i64 0)⟩
def ti4 : TI := ⟨.bool, 1, 1, (.bool false)⟩
def ti5 : TI := ⟨.int .u8, 1, 1, (.int .u8 0)⟩
def ti9 : TI := ⟨.string, 1, 16, (.string ⟨#[]⟩)⟩
def ti12 : TI := ⟨.int .u64, 1, 8, (.int .u64 0)⟩
def z13 : List Value := [(.string ⟨#[]⟩)] ++ [(.int .u64 0)]
def ti13 : TI := ⟨.struct #[{ name := "msg", type := 9, offset := 0, embedded := false, tag := "", pkgPath := "runtime", byteOffset := 0 }, { name := "addr", type := 12, offset := 1, embedded := false, tag := "", pkgPath := "runtime", byteOffset := 16 }], 2, 24, .agg z13.toArray⟩
def z19 : List Value := [(.pointer none)]
def ti19 : TI := ⟨.struct #[{ name := "typ", type := 17, offset := 0, embedded := false, tag := "", pkgPath := "internal/runtime/maps", byteOffset := 0 }], 1, 8, .agg z19.toArray⟩
def ti21 : TI := ⟨.int .i32, 1, 4, (.int .i32 0)⟩
def ti22 : TI := ⟨.slice 52, 1, 24, (.slice none 0 0)⟩
def ti23 : TI := ⟨.slice 2, 1, 24, (.slice none 0 0)⟩
def ti24 : TI := ⟨.slice 3, 1, 24, (.slice none 0 0)⟩
def ti25 : TI := ⟨.slice 24, 1, 24, (.slice none 0 0)⟩
def ti26 : TI := ⟨.slice 23, 1, 24, (.slice none 0 0)⟩
def z27 : List Value := [(.slice none 0 0), (.slice none 0 0), (.slice none 0 0), (.slice none 0 0), (.slice none 0 0)]
def ti27 : TI := ⟨.struct #[{ name := "Events", type := 22, offset := 0, embedded := false, tag := "", pkgPath := "", byteOffset := 0 }, { name := "Values", type := 23, offset := 1, embedded := false, tag := "", pkgPath := "", byteOffset := 24 }, { name := "From", type := 24, offset := 2, embedded := false, tag := "", pkgPath := "", byteOffset := 48 }, { name := "Order", type := 25, offset := 3, embedded := false, tag := "", pkgPath := "", byteOffset := 72 }, { name := "Regs", type := 26, offset := 4, embedded := false, tag := "", pkgPath := "", byteOffset := 96 }], 5, 120, .agg z27.toArray⟩
def z28 : List Value := [(.slice none 0 0), (.slice none 0 0), (.slice none 0 0), (.slice none 0 0), (.slice none 0 0)]
def ti28 : TI := ⟨.struct #[{ name := "Events", type := 22, offset := 0, embedded := false, tag := "", pkgPath := "", byteOffset := 0 }, { name := "Values", type := 23, offset := 1, embedded := false, tag := "", pkgPath := "", byteOffset := 24 }, { name := "From", type := 24, offset := 2, embedded := false, tag := "", pkgPath := "", byteOffset := 48 }, { name := "Order", type := 25, offset := 3, embedded := false, tag := "", pkgPath := "", byteOffset := 72 }, { name := "Regs", type := 26, offset := 4, embedded := false, tag := "", pkgPath := "", byteOffset := 96 }], 5, 120, .agg z28.toArray⟩
def ti29 : TI := ⟨.int .u64, 1, 8, (.int .u64 0)⟩
def z30 : List Value := List.replicate 64 (.int .u64 0)
def ti30 : TI := ⟨.array 64 29, 64, 512, .agg z30.toArray⟩
def z31 : List Value := [(.int .i64 0)] ++ List.replicate 64 (.int .u64 0)
def ti31 : TI := ⟨.struct #[{ name := "N", type := 3, offset := 0, embedded := false, tag := "", pkgPath := "", byteOffset := 0 }, { name := "Rows", type := 30, offset := 1, embedded := false, tag := "", pkgPath := "", byteOffset := 8 }], 65, 520, .agg z31.toArray⟩
def z32 : List Value := [(.int .i64 0)] ++ List.replicate 64 (.int .u64 0)
def ti32 : TI := ⟨.struct #[{ name := "N", type := 3, offset := 0, embedded := false, tag := "", pkgPath := "", byteOffset := 0 }, { name := "Rows", type := 30, offset := 1, embedded := false, tag := "", pkgPath := "", byteOffset := 8 }], 65, 520, .agg z32.toArray⟩
def ti33 : TI := ⟨.func #[28] #[32] false, 1, 8, .nilFunc⟩
def ti34 : TI := ⟨.func #[28] #[4] false, 1, 8, .nilFunc⟩
def ti35 : TI := ⟨.slice 61, 1, 24, (.slice none 0 0)⟩
def ti36 : TI := ⟨.slice 37, 1, 24, (.slice none 0 0)⟩
def ti37 : TI := ⟨.slice 9, 1, 24, (.slice none 0 0)⟩
def z38 : List Value := [(.slice none 0 0), (.slice none 0 0), (.slice none 0 0), (.slice none 0 0), (.slice none 0 0)]
def ti38 : TI := ⟨.struct #[{ name := "Threads", type := 35, offset := 0, embedded := false, tag := "", pkgPath := "", byteOffset := 0 }, { name := "Regs", type := 36, offset := 1, embedded := false, tag := "", pkgPath := "", byteOffset := 24 }, { name := "Locs", type := 37, offset := 2, embedded := false, tag := "", pkgPath := "", byteOffset := 48 }, { name := "RegInit", type := 26, offset := 3, embedded := false, tag := "", pkgPath := "", byteOffset := 72 }, { name := "LocInit", type := 23, offset := 4, embedded := false, tag := "", pkgPath := "", byteOffset := 96 }], 5, 120, .agg z38.toArray⟩
def z39 : List Value := [(.slice none 0 0), (.slice none 0 0), (.slice none 0 0), (.slice none 0 0), (.slice none 0 0)]
def ti39 : TI := ⟨.struct #[{ name := "Threads", type := 35, offset := 0, embedded := false, tag := "", pkgPath := "", byteOffset := 0 }, { name := "Regs", type := 36, offset := 1, embedded := false, tag := "", pkgPath := "", byteOffset := 24 }, { name := "Locs", type := 37, offset := 2, embedded := false, tag := "", pkgPath := "", byteOffset := 48 }, { name := "RegInit", type := 26, offset := 3, embedded := false, tag := "", pkgPath := "", byteOffset := 72 }, { name := "LocInit", type := 23, offset := 4, embedded := false, tag := "", pkgPath := "", byteOffset := 96 }], 5, 120, .agg z39.toArray⟩
def ti40 : TI := ⟨.int .u64, 1, 8, (.int .u64 0)⟩
def ti41 : TI := ⟨.func #[] #[4] false, 1, 8, .nilFunc⟩
def ti42 : TI := ⟨.int .i64, 1, 8, (.int .i64 0)⟩
def ti44 : TI := ⟨.func #[39] #[3, 42] false, 1, 8, .nilFunc⟩
def ti45 : TI := ⟨.func #[39] #[42] false, 1, 8, .nilFunc⟩
def ti46 : TI := ⟨.int .u64, 1, 8, (.int .u64 0)⟩
def ti48 : TI := ⟨.func #[39, 40] #[22, 42] false, 1, 8, .nilFunc⟩
def ti49 : TI := ⟨.func #[39] #[3] false, 1, 8, .nilFunc⟩
def ti50 : TI := ⟨.func #[22] #[32] false, 1, 8, .nilFunc⟩
def z51 : List Value := [(.int .i64 0), (.int .i64 0), (.int .i64 0), (.int .i64 0)] ++ [(.bool false)]
def ti51 : TI := ⟨.struct #[{ name := "Kind", type := 3, offset := 0, embedded := false, tag := "", pkgPath := "", byteOffset := 0 }, { name := "Thread", type := 3, offset := 1, embedded := false, tag := "", pkgPath := "", byteOffset := 8 }, { name := "Index", type := 3, offset := 2, embedded := false, tag := "", pkgPath := "", byteOffset := 16 }, { name := "Loc", type := 3, offset := 3, embedded := false, tag := "", pkgPath := "", byteOffset := 24 }, { name := "Locked", type := 4, offset := 4, embedded := false, tag := "", pkgPath := "", byteOffset := 32 }], 5, 40, .agg z51.toArray⟩
def z52 : List Value := [(.int .i64 0), (.int .i64 0), (.int .i64 0), (.int .i64 0)] ++ [(.bool false)]
def ti52 : TI := ⟨.struct #[{ name := "Kind", type := 3, offset := 0, embedded := false, tag := "", pkgPath := "", byteOffset := 0 }, { name := "Thread", type := 3, offset := 1, embedded := false, tag := "", pkgPath := "", byteOffset := 8 }, { name := "Index", type := 3, offset := 2, embedded := false, tag := "", pkgPath := "", byteOffset := 16 }, { name := "Loc", type := 3, offset := 3, embedded := false, tag := "", pkgPath := "", byteOffset := 24 }, { name := "Locked", type := 4, offset := 4, embedded := false, tag := "", pkgPath := "", byteOffset := 32 }], 5, 40, .agg z52.toArray⟩
def ti53 : TI := ⟨.func #[39, 40] #[4] false, 1, 8, .nilFunc⟩
def ti54 : TI := ⟨.func #[52] #[4] false, 1, 8, .nilFunc⟩
def ti55 : TI := ⟨.func #[22] #[22] false, 1, 8, .nilFunc⟩
def ti56 : TI := ⟨.func #[32, 32] #[32] false, 1, 8, .nilFunc⟩
def ti57 : TI := ⟨.func #[32] #[32] false, 1, 8, .nilFunc⟩
def ti58 : TI := ⟨.func #[3, 40] #[32] false, 1, 8, .nilFunc⟩
def z59 : List Value := [(.int .i64 0), (.int .i64 0), (.int .i64 0), (.int .i64 0), (.int .i64 0)]
def ti59 : TI := ⟨.struct #[{ name := "Kind", type := 3, offset := 0, embedded := false, tag := "", pkgPath := "", byteOffset := 0 }, { name := "Reg", type := 3, offset := 1, embedded := false, tag := "", pkgPath := "", byteOffset := 8 }, { name := "Src", type := 3, offset := 2, embedded := false, tag := "", pkgPath := "", byteOffset := 16 }, { name := "Loc", type := 3, offset := 3, embedded := false, tag := "", pkgPath := "", byteOffset := 24 }, { name := "Imm", type := 2, offset := 4, embedded := false, tag := "", pkgPath := "", byteOffset := 32 }], 5, 40, .agg z59.toArray⟩
def z60 : List Value := [(.int .i64 0), (.int .i64 0), (.int .i64 0), (.int .i64 0), (.int .i64 0)]
def ti60 : TI := ⟨.struct #[{ name := "Kind", type := 3, offset := 0, embedded := false, tag := "", pkgPath := "", byteOffset := 0 }, { name := "Reg", type := 3, offset := 1, embedded := false, tag := "", pkgPath := "", byteOffset := 8 }, { name := "Src", type := 3, offset := 2, embedded := false, tag := "", pkgPath := "", byteOffset := 16 }, { name := "Loc", type := 3, offset := 3, embedded := false, tag := "", pkgPath := "", byteOffset := 24 }, { name := "Imm", type := 2, offset := 4, embedded := false, tag := "", pkgPath := "", byteOffset := 32 }], 5, 40, .agg z60.toArray⟩
def ti61 : TI := ⟨.slice 60, 1, 24, (.slice none 0 0)⟩
def ti62 : TI := ⟨.func #[39, 52] #[9] false, 1, 8, .nilFunc⟩
def ti63 : TI := ⟨.func #[37, 64] #[4] false, 1, 8, .nilFunc⟩
def ti64 : TI := ⟨.func #[9] #[4] false, 1, 8, .nilFunc⟩
def ti65 : TI := ⟨.func #[60, 37, 37] #[4] false, 1, 8, .nilFunc⟩
def ti66 : TI := ⟨.func #[3, 4] #[] false, 1, 8, .nilFunc⟩
def z67 : List Value := [(.bool false), (.bool false), (.bool false), (.bool false)] ++ [(.int .i64 0)]
def ti67 : TI := ⟨.struct #[{ name := "reg", type := 4, offset := 0, embedded := false, tag := "", pkgPath := "weir/prog", byteOffset := 0 }, { name := "src", type := 4, offset := 1, embedded := false, tag := "", pkgPath := "weir/prog", byteOffset := 1 }, { name := "loc", type := 4, offset := 2, embedded := false, tag := "", pkgPath := "weir/prog", byteOffset := 2 }, { name := "imm", type := 4, offset := 3, embedded := false, tag := "", pkgPath := "weir/prog", byteOffset := 3 }, { name := "events", type := 3, offset := 4, embedded := false, tag := "", pkgPath := "weir/prog", byteOffset := 8 }], 5, 16, .agg z67.toArray⟩
def z68 : List Value := [(.bool false), (.bool false), (.bool false), (.bool false)] ++ [(.int .i64 0)]
def ti68 : TI := ⟨.struct #[{ name := "reg", type := 4, offset := 0, embedded := false, tag := "", pkgPath := "weir/prog", byteOffset := 0 }, { name := "src", type := 4, offset := 1, embedded := false, tag := "", pkgPath := "weir/prog", byteOffset := 1 }, { name := "loc", type := 4, offset := 2, embedded := false, tag := "", pkgPath := "weir/prog", byteOffset := 2 }, { name := "imm", type := 4, offset := 3, embedded := false, tag := "", pkgPath := "weir/prog", byteOffset := 3 }, { name := "events", type := 3, offset := 4, embedded := false, tag := "", pkgPath := "weir/prog", byteOffset := 8 }], 5, 16, .agg z68.toArray⟩
def ti70 : TI := ⟨.func #[3] #[68, 4] false, 1, 8, .nilFunc⟩
def ti71 : TI := ⟨.func #[22, 73] #[32] false, 1, 8, .nilFunc⟩
def ti72 : TI := ⟨.func #[52, 52] #[4] false, 1, 8, .nilFunc⟩
def ti73 : TI := ⟨.func #[3, 3, 52, 52] #[4] false, 1, 8, .nilFunc⟩
def ti74 : TI := ⟨.map 3 3, 1, 8, (.map none)⟩
def ti75 : TI := ⟨.func #[32, 32, 76] #[32] false, 1, 8, .nilFunc⟩
def ti76 : TI := ⟨.func #[29, 29] #[29] false, 1, 8, .nilFunc⟩
def ti78 : TI := ⟨.func #[32, 32] #[32, 32] false, 1, 8, .nilFunc⟩
def ti79 : TI := ⟨.func #[89] #[] false, 1, 8, .nilFunc⟩
def ti80 : TI := ⟨.func #[89] #[] false, 1, 8, .nilFunc⟩
def ti81 : TI := ⟨.func #[32] #[80] false, 1, 8, .nilFunc⟩
def z82 : List Value := [(.int .i64 0), (.int .i64 0)]
def ti82 : TI := ⟨.struct #[{ name := "A", type := 3, offset := 0, embedded := false, tag := "", pkgPath := "", byteOffset := 0 }, { name := "B", type := 3, offset := 1, embedded := false, tag := "", pkgPath := "", byteOffset := 8 }], 2, 16, .agg z82.toArray⟩
def z83 : List Value := [(.int .i64 0), (.int .i64 0)]
def ti83 : TI := ⟨.struct #[{ name := "A", type := 3, offset := 0, embedded := false, tag := "", pkgPath := "", byteOffset := 0 }, { name := "B", type := 3, offset := 1, embedded := false, tag := "", pkgPath := "", byteOffset := 8 }], 2, 16, .agg z83.toArray⟩
def ti84 : TI := ⟨.func #[3, 40, 40] #[32] false, 1, 8, .nilFunc⟩
def ti85 : TI := ⟨.func #[3] #[9] false, 1, 8, .nilFunc⟩
def ti86 : TI := ⟨.func #[9] #[3] false, 1, 8, .nilFunc⟩
def ti87 : TI := ⟨.func #[4, 3, 3] #[4] false, 1, 8, .nilFunc⟩
def ti88 : TI := ⟨.func #[3] #[29] false, 1, 8, .nilFunc⟩
def ti89 : TI := ⟨.func #[83] #[4] false, 1, 8, .nilFunc⟩
def ti90 : TI := ⟨.func #[29] #[3] false, 1, 8, .nilFunc⟩
def ti91 : TI := ⟨.func #[32] #[42] false, 1, 8, .nilFunc⟩
def ti92 : TI := ⟨.func #[5] #[4] false, 1, 8, .nilFunc⟩
def ti93 : TI := ⟨.func #[9, 3] #[5] false, 1, 8, .nilFunc⟩
def z94 : List Value := List.replicate 64 (.int .u8 0)
def ti94 : TI := ⟨.array 64 5, 64, 64, .agg z94.toArray⟩
def ti95 : TI := ⟨.func #[2, 3] #[9] false, 1, 8, .nilFunc⟩
def z96 : List Value := List.replicate 24 (.int .u8 0)
def ti96 : TI := ⟨.array 24 5, 24, 24, .agg z96.toArray⟩
def ti97 : TI := ⟨.func #[98, 29] #[] false, 1, 8, .nilFunc⟩
def ti98 : TI := ⟨.slice 5, 1, 24, (.slice none 0 0)⟩
def ti100 : TI := ⟨.func #[98, 29, 3, 4, 4] #[98, 9] false, 1, 8, .nilFunc⟩
def ti101 : TI := ⟨.func #[3] #[3] false, 1, 8, .nilFunc⟩
def ti102 : TI := ⟨.func #[4] #[3] false, 1, 8, .nilFunc⟩
def z103 : List Value := List.replicate 20 (.int .u64 0)
def ti103 : TI := ⟨.array 20 29, 20, 160, .agg z103.toArray⟩
def ti104 : TI := ⟨.int .u32, 1, 4, (.int .u32 0)⟩
def z105 : List Value := List.replicate 65 (.int .u8 0)
def ti105 : TI := ⟨.array 65 5, 65, 65, .agg z105.toArray⟩
def ti106 : TI := ⟨.func #[3] #[4] false, 1, 8, .nilFunc⟩
def ti107 : TI := ⟨.func #[46] #[3] false, 1, 8, .nilFunc⟩
def ti108 : TI := ⟨.func #[104] #[3] false, 1, 8, .nilFunc⟩
def z109 : List Value := List.replicate 32 (.int .u8 0)
def ti109 : TI := ⟨.array 32 5, 32, 32, .agg z109.toArray⟩
def ti110 : TI := ⟨.func #[] #[9] false, 1, 8, .nilFunc⟩
def ti116 : TI := ⟨.func #[] #[3] false, 1, 8, .nilFunc⟩
def ti119 : TI := ⟨.func #[125, 125] #[4] false, 1, 8, .nilFunc⟩
def ti120 : TI := ⟨.pointer 5, 1, 8, (.pointer none)⟩
def tab : Tab := [(1, ti1), (2, ti2), (3, ti3), (4, ti4), (5, ti5), (9, ti9), (12, ti12), (13, ti13), (19, ti19), (21, ti21), (22, ti22), (23, ti23), (24, ti24), (25, ti25), (26, ti26), (27, ti27), (28, ti28), (29, ti29), (30, ti30), (31, ti31), (32, ti32), (33, ti33), (34, ti34), (35, ti35), (36, ti36), (37, ti37), (38, ti38), (39, ti39), (40, ti40), (41, ti41), (42, ti42), (44, ti44), (45, ti45), (46, ti46), (48, ti48), (49, ti49), (50, ti50), (51, ti51), (52, ti52), (53, ti53), (54, ti54), (55, ti55), (56, ti56), (57, ti57), (58, ti58), (59, ti59), (60, ti60), (61, ti61), (62, ti62), (63, ti63), (64, ti64), (65, ti65), (66, ti66), (67, ti67), (68, ti68), (70, ti70), (71, ti71), (72, ti72), (73, ti73), (74, ti74), (75, ti75), (76, ti76), (78, ti78), (79, ti79), (80, ti80), (81, ti81), (82, ti82), (83, ti83), (84, ti84), (85, ti85), (86, ti86), (87, ti87), (88, ti88), (89, ti89), (90, ti90), (91, ti91), (92, ti92), (93, ti93), (94, ti94), (95, ti95), (96, ti96), (97, ti97), (98, ti98), (100, ti100), (101, ti101), (102, ti102), (103, ti103), (104, ti104), (105, ti105), (106, ti106), (107, ti107), (108, ti108), (109, ti109), (110, ti110), (116, ti116), (119, ti119), (120, ti120)]
set_option maxRecDepth 100000
theorem tab_ok0 : tabOK Tryd.prog [] := tabOK_nil _
theorem tab_a120 : Tryd.prog.underlying 120 = some ti120.d := by kernel_rfl
theorem tab_b120 : (Tryd.prog.info? 120).map (fun x => (x.zero, x.size, x.bytes)) = some (some ti120.zero, ti120.size, ti120.bytes) := by kernel_rfl
theorem tab_a119 : Tryd.prog.underlying 119 = some ti119.d := by kernel_rfl
theorem tab_b119 : (Tryd.prog.info? 119).map (fun x => (x.zero, x.size, x.bytes)) = some (some ti119.zero, ti119.size, ti119.bytes) := by kernel_rfl
theorem tab_a116 : Tryd.prog.underlying 116 = some ti116.d := by kernel_rfl
theorem tab_b116 : (Tryd.prog.info? 116).map (fun x => (x.zero, x.size, x.bytes)) = some (some ti116.zero, ti116.size, ti116.bytes) := by kernel_rfl
theorem tab_a110 : Tryd.prog.underlying 110 = some ti110.d := by kernel_rfl
theorem tab_b110 : (Tryd.prog.info? 110).map (fun x => (x.zero, x.size, x.bytes)) = some (some ti110.zero, ti110.size, ti110.bytes) := by kernel_rfl
theorem tab_a109 : Tryd.prog.underlying 109 = some ti109.d := by kernel_rfl
theorem tab_b109 : (Tryd.prog.info? 109).map (fun x => (x.zero, x.size, x.bytes)) = some (some ti109.zero, ti109.size, ti109.bytes) := by kernel_rfl
theorem tab_a108 : Tryd.prog.underlying 108 = some ti108.d := by kernel_rfl
theorem tab_b108 : (Tryd.prog.info? 108).map (fun x => (x.zero, x.size, x.bytes)) = some (some ti108.zero, ti108.size, ti108.bytes) := by kernel_rfl
theorem tab_a107 : Tryd.prog.underlying 107 = some ti107.d := by kernel_rfl
theorem tab_b107 : (Tryd.prog.info? 107).map (fun x => (x.zero, x.size, x.bytes)) = some (some ti107.zero, ti107.size, ti107.bytes) := by kernel_rfl
theorem tab_a106 : Tryd.prog.underlying 106 = some ti106.d := by kernel_rfl
theorem tab_b106 : (Tryd.prog.info? 106).map (fun x => (x.zero, x.size, x.bytes)) = some (some ti106.zero, ti106.size, ti106.bytes) := by kernel_rfl
theorem tab_a105 : Tryd.prog.underlying 105 = some ti105.d := by kernel_rfl
theorem tab_b105 : (Tryd.prog.info? 105).map (fun x => (x.zero, x.size, x.bytes)) = some (some ti105.zero, ti105.size, ti105.bytes) := by kernel_rfl
theorem tab_a104 : Tryd.prog.underlying 104 = some ti104.d := by kernel_rfl
theorem tab_b104 : (Tryd.prog.info? 104).map (fun x => (x.zero, x.size, x.bytes)) = some (some ti104.zero, ti104.size, ti104.bytes) := by kernel_rfl
theorem tab_a103 : Tryd.prog.underlying 103 = some ti103.d := by kernel_rfl
theorem tab_b103 : (Tryd.prog.info? 103).map (fun x => (x.zero, x.size, x.bytes)) = some (some ti103.zero, ti103.size, ti103.bytes) := by kernel_rfl
theorem tab_a102 : Tryd.prog.underlying 102 = some ti102.d := by kernel_rfl
theorem tab_b102 : (Tryd.prog.info? 102).map (fun x => (x.zero, x.size, x.bytes)) = some (some ti102.zero, ti102.size, ti102.bytes) := by kernel_rfl
theorem tab_a101 : Tryd.prog.underlying 101 = some ti101.d := by kernel_rfl
theorem tab_b101 : (Tryd.prog.info? 101).map (fun x => (x.zero, x.size, x.bytes)) = some (some ti101.zero, ti101.size, ti101.bytes) := by kernel_rfl
theorem tab_a100 : Tryd.prog.underlying 100 = some ti100.d := by kernel_rfl
theorem tab_b100 : (Tryd.prog.info? 100).map (fun x => (x.zero, x.size, x.bytes)) = some (some ti100.zero, ti100.size, ti100.bytes) := by kernel_rfl
theorem tab_a98 : Tryd.prog.underlying 98 = some ti98.d := by kernel_rfl
theorem tab_b98 : (Tryd.prog.info? 98).map (fun x => (x.zero, x.size, x.bytes)) = some (some ti98.zero, ti98.size, ti98.bytes) := by kernel_rfl
theorem tab_a97 : Tryd.prog.underlying 97 = some ti97.d := by kernel_rfl
theorem tab_b97 : (Tryd.prog.info? 97).map (fun x => (x.zero, x.size, x.bytes)) = some (some ti97.zero, ti97.size, ti97.bytes) := by kernel_rfl
theorem tab_a96 : Tryd.prog.underlying 96 = some ti96.d := by kernel_rfl
theorem tab_b96 : (Tryd.prog.info? 96).map (fun x => (x.zero, x.size, x.bytes)) = some (some ti96.zero, ti96.size, ti96.bytes) := by kernel_rfl
theorem tab_a95 : Tryd.prog.underlying 95 = some ti95.d := by kernel_rfl
theorem tab_b95 : (Tryd.prog.info? 95).map (fun x => (x.zero, x.size, x.bytes)) = some (some ti95.zero, ti95.size, ti95.bytes) := by kernel_rfl
theorem tab_a94 : Tryd.prog.underlying 94 = some ti94.d := by kernel_rfl
theorem tab_b94 : (Tryd.prog.info? 94).map (fun x => (x.zero, x.size, x.bytes)) = some (some ti94.zero, ti94.size, ti94.bytes) := by kernel_rfl
theorem tab_a93 : Tryd.prog.underlying 93 = some ti93.d := by kernel_rfl
theorem tab_b93 : (Tryd.prog.info? 93).map (fun x => (x.zero, x.size, x.bytes)) = some (some ti93.zero, ti93.size, ti93.bytes) := by kernel_rfl
theorem tab_a92 : Tryd.prog.underlying 92 = some ti92.d := by kernel_rfl
theorem tab_b92 : (Tryd.prog.info? 92).map (fun x => (x.zero, x.size, x.bytes)) = some (some ti92.zero, ti92.size, ti92.bytes) := by kernel_rfl
theorem tab_a91 : Tryd.prog.underlying 91 = some ti91.d := by kernel_rfl
theorem tab_b91 : (Tryd.prog.info? 91).map (fun x => (x.zero, x.size, x.bytes)) = some (some ti91.zero, ti91.size, ti91.bytes) := by kernel_rfl
theorem tab_a90 : Tryd.prog.underlying 90 = some ti90.d := by kernel_rfl
theorem tab_b90 : (Tryd.prog.info? 90).map (fun x => (x.zero, x.size, x.bytes)) = some (some ti90.zero, ti90.size, ti90.bytes) := by kernel_rfl
theorem tab_a89 : Tryd.prog.underlying 89 = some ti89.d := by kernel_rfl
theorem tab_b89 : (Tryd.prog.info? 89).map (fun x => (x.zero, x.size, x.bytes)) = some (some ti89.zero, ti89.size, ti89.bytes) := by kernel_rfl
theorem tab_a88 : Tryd.prog.underlying 88 = some ti88.d := by kernel_rfl
theorem tab_b88 : (Tryd.prog.info? 88).map (fun x => (x.zero, x.size, x.bytes)) = some (some ti88.zero, ti88.size, ti88.bytes) := by kernel_rfl
theorem tab_a87 : Tryd.prog.underlying 87 = some ti87.d := by kernel_rfl
theorem tab_b87 : (Tryd.prog.info? 87).map (fun x => (x.zero, x.size, x.bytes)) = some (some ti87.zero, ti87.size, ti87.bytes) := by kernel_rfl
theorem tab_a86 : Tryd.prog.underlying 86 = some ti86.d := by kernel_rfl
theorem tab_b86 : (Tryd.prog.info? 86).map (fun x => (x.zero, x.size, x.bytes)) = some (some ti86.zero, ti86.size, ti86.bytes) := by kernel_rfl
theorem tab_a85 : Tryd.prog.underlying 85 = some ti85.d := by kernel_rfl
theorem tab_b85 : (Tryd.prog.info? 85).map (fun x => (x.zero, x.size, x.bytes)) = some (some ti85.zero, ti85.size, ti85.bytes) := by kernel_rfl
theorem tab_a84 : Tryd.prog.underlying 84 = some ti84.d := by kernel_rfl
theorem tab_b84 : (Tryd.prog.info? 84).map (fun x => (x.zero, x.size, x.bytes)) = some (some ti84.zero, ti84.size, ti84.bytes) := by kernel_rfl
theorem tab_a83 : Tryd.prog.underlying 83 = some ti83.d := by kernel_rfl
theorem tab_b83 : (Tryd.prog.info? 83).map (fun x => (x.zero, x.size, x.bytes)) = some (some ti83.zero, ti83.size, ti83.bytes) := by kernel_rfl
theorem tab_a82 : Tryd.prog.underlying 82 = some ti82.d := by kernel_rfl
theorem tab_b82 : (Tryd.prog.info? 82).map (fun x => (x.zero, x.size, x.bytes)) = some (some ti82.zero, ti82.size, ti82.bytes) := by kernel_rfl
theorem tab_a81 : Tryd.prog.underlying 81 = some ti81.d := by kernel_rfl
theorem tab_b81 : (Tryd.prog.info? 81).map (fun x => (x.zero, x.size, x.bytes)) = some (some ti81.zero, ti81.size, ti81.bytes) := by kernel_rfl
theorem tab_a80 : Tryd.prog.underlying 80 = some ti80.d := by kernel_rfl
theorem tab_b80 : (Tryd.prog.info? 80).map (fun x => (x.zero, x.size, x.bytes)) = some (some ti80.zero, ti80.size, ti80.bytes) := by kernel_rfl
theorem tab_a79 : Tryd.prog.underlying 79 = some ti79.d := by kernel_rfl
theorem tab_b79 : (Tryd.prog.info? 79).map (fun x => (x.zero, x.size, x.bytes)) = some (some ti79.zero, ti79.size, ti79.bytes) := by kernel_rfl
theorem tab_a78 : Tryd.prog.underlying 78 = some ti78.d := by kernel_rfl
theorem tab_b78 : (Tryd.prog.info? 78).map (fun x => (x.zero, x.size, x.bytes)) = some (some ti78.zero, ti78.size, ti78.bytes) := by kernel_rfl
theorem tab_a76 : Tryd.prog.underlying 76 = some ti76.d := by kernel_rfl
theorem tab_b76 : (Tryd.prog.info? 76).map (fun x => (x.zero, x.size, x.bytes)) = some (some ti76.zero, ti76.size, ti76.bytes) := by kernel_rfl
theorem tab_a75 : Tryd.prog.underlying 75 = some ti75.d := by kernel_rfl
theorem tab_b75 : (Tryd.prog.info? 75).map (fun x => (x.zero, x.size, x.bytes)) = some (some ti75.zero, ti75.size, ti75.bytes) := by kernel_rfl
theorem tab_a74 : Tryd.prog.underlying 74 = some ti74.d := by kernel_rfl
theorem tab_b74 : (Tryd.prog.info? 74).map (fun x => (x.zero, x.size, x.bytes)) = some (some ti74.zero, ti74.size, ti74.bytes) := by kernel_rfl
theorem tab_a73 : Tryd.prog.underlying 73 = some ti73.d := by kernel_rfl
theorem tab_b73 : (Tryd.prog.info? 73).map (fun x => (x.zero, x.size, x.bytes)) = some (some ti73.zero, ti73.size, ti73.bytes) := by kernel_rfl
theorem tab_a72 : Tryd.prog.underlying 72 = some ti72.d := by kernel_rfl
theorem tab_b72 : (Tryd.prog.info? 72).map (fun x => (x.zero, x.size, x.bytes)) = some (some ti72.zero, ti72.size, ti72.bytes) := by kernel_rfl
theorem tab_a71 : Tryd.prog.underlying 71 = some ti71.d := by kernel_rfl
theorem tab_b71 : (Tryd.prog.info? 71).map (fun x => (x.zero, x.size, x.bytes)) = some (some ti71.zero, ti71.size, ti71.bytes) := by kernel_rfl
theorem tab_a70 : Tryd.prog.underlying 70 = some ti70.d := by kernel_rfl
theorem tab_b70 : (Tryd.prog.info? 70).map (fun x => (x.zero, x.size, x.bytes)) = some (some ti70.zero, ti70.size, ti70.bytes) := by kernel_rfl
theorem tab_a68 : Tryd.prog.underlying 68 = some ti68.d := by kernel_rfl
theorem tab_b68 : (Tryd.prog.info? 68).map (fun x => (x.zero, x.size, x.bytes)) = some (some ti68.zero, ti68.size, ti68.bytes) := by kernel_rfl
theorem tab_a67 : Tryd.prog.underlying 67 = some ti67.d := by kernel_rfl
theorem tab_b67 : (Tryd.prog.info? 67).map (fun x => (x.zero, x.size, x.bytes)) = some (some ti67.zero, ti67.size, ti67.bytes) := by kernel_rfl
theorem tab_a66 : Tryd.prog.underlying 66 = some ti66.d := by kernel_rfl
theorem tab_b66 : (Tryd.prog.info? 66).map (fun x => (x.zero, x.size, x.bytes)) = some (some ti66.zero, ti66.size, ti66.bytes) := by kernel_rfl
theorem tab_a65 : Tryd.prog.underlying 65 = some ti65.d := by kernel_rfl
theorem tab_b65 : (Tryd.prog.info? 65).map (fun x => (x.zero, x.size, x.bytes)) = some (some ti65.zero, ti65.size, ti65.bytes) := by kernel_rfl
theorem tab_a64 : Tryd.prog.underlying 64 = some ti64.d := by kernel_rfl
theorem tab_b64 : (Tryd.prog.info? 64).map (fun x => (x.zero, x.size, x.bytes)) = some (some ti64.zero, ti64.size, ti64.bytes) := by kernel_rfl
theorem tab_a63 : Tryd.prog.underlying 63 = some ti63.d := by kernel_rfl
theorem tab_b63 : (Tryd.prog.info? 63).map (fun x => (x.zero, x.size, x.bytes)) = some (some ti63.zero, ti63.size, ti63.bytes) := by kernel_rfl
theorem tab_a62 : Tryd.prog.underlying 62 = some ti62.d := by kernel_rfl
theorem tab_b62 : (Tryd.prog.info? 62).map (fun x => (x.zero, x.size, x.bytes)) = some (some ti62.zero, ti62.size, ti62.bytes) := by kernel_rfl
theorem tab_a61 : Tryd.prog.underlying 61 = some ti61.d := by kernel_rfl
theorem tab_b61 : (Tryd.prog.info? 61).map (fun x => (x.zero, x.size, x.bytes)) = some (some ti61.zero, ti61.size, ti61.bytes) := by kernel_rfl
theorem tab_a60 : Tryd.prog.underlying 60 = some ti60.d := by kernel_rfl
theorem tab_b60 : (Tryd.prog.info? 60).map (fun x => (x.zero, x.size, x.bytes)) = some (some ti60.zero, ti60.size, ti60.bytes) := by kernel_rfl
theorem tab_a59 : Tryd.prog.underlying 59 = some ti59.d := by kernel_rfl
theorem tab_b59 : (Tryd.prog.info? 59).map (fun x => (x.zero, x.size, x.bytes)) = some (some ti59.zero, ti59.size, ti59.bytes) := by kernel_rfl
theorem tab_a58 : Tryd.prog.underlying 58 = some ti58.d := by kernel_rfl
theorem tab_b58 : (Tryd.prog.info? 58).map (fun x => (x.zero, x.size, x.bytes)) = some (some ti58.zero, ti58.size, ti58.bytes) := by kernel_rfl
theorem tab_a57 : Tryd.prog.underlying 57 = some ti57.d := by kernel_rfl
theorem tab_b57 : (Tryd.prog.info? 57).map (fun x => (x.zero, x.size, x.bytes)) = some (some ti57.zero, ti57.size, ti57.bytes) := by kernel_rfl
theorem tab_a56 : Tryd.prog.underlying 56 = some ti56.d := by kernel_rfl
theorem tab_b56 : (Tryd.prog.info? 56).map (fun x => (x.zero, x.size, x.bytes)) = some (some ti56.zero, ti56.size, ti56.bytes) := by kernel_rfl
theorem tab_a55 : Tryd.prog.underlying 55 = some ti55.d := by kernel_rfl
theorem tab_b55 : (Tryd.prog.info? 55).map (fun x => (x.zero, x.size, x.bytes)) = some (some ti55.zero, ti55.size, ti55.bytes) := by kernel_rfl
theorem tab_a54 : Tryd.prog.underlying 54 = some ti54.d := by kernel_rfl
theorem tab_b54 : (Tryd.prog.info? 54).map (fun x => (x.zero, x.size, x.bytes)) = some (some ti54.zero, ti54.size, ti54.bytes) := by kernel_rfl
theorem tab_a53 : Tryd.prog.underlying 53 = some ti53.d := by kernel_rfl
theorem tab_b53 : (Tryd.prog.info? 53).map (fun x => (x.zero, x.size, x.bytes)) = some (some ti53.zero, ti53.size, ti53.bytes) := by kernel_rfl
theorem tab_a52 : Tryd.prog.underlying 52 = some ti52.d := by kernel_rfl
theorem tab_b52 : (Tryd.prog.info? 52).map (fun x => (x.zero, x.size, x.bytes)) = some (some ti52.zero, ti52.size, ti52.bytes) := by kernel_rfl
theorem tab_a51 : Tryd.prog.underlying 51 = some ti51.d := by kernel_rfl
theorem tab_b51 : (Tryd.prog.info? 51).map (fun x => (x.zero, x.size, x.bytes)) = some (some ti51.zero, ti51.size, ti51.bytes) := by kernel_rfl
theorem tab_a50 : Tryd.prog.underlying 50 = some ti50.d := by kernel_rfl
theorem tab_b50 : (Tryd.prog.info? 50).map (fun x => (x.zero, x.size, x.bytes)) = some (some ti50.zero, ti50.size, ti50.bytes) := by kernel_rfl
theorem tab_a49 : Tryd.prog.underlying 49 = some ti49.d := by kernel_rfl
theorem tab_b49 : (Tryd.prog.info? 49).map (fun x => (x.zero, x.size, x.bytes)) = some (some ti49.zero, ti49.size, ti49.bytes) := by kernel_rfl
theorem tab_a48 : Tryd.prog.underlying 48 = some ti48.d := by kernel_rfl
theorem tab_b48 : (Tryd.prog.info? 48).map (fun x => (x.zero, x.size, x.bytes)) = some (some ti48.zero, ti48.size, ti48.bytes) := by kernel_rfl
theorem tab_a46 : Tryd.prog.underlying 46 = some ti46.d := by kernel_rfl
theorem tab_b46 : (Tryd.prog.info? 46).map (fun x => (x.zero, x.size, x.bytes)) = some (some ti46.zero, ti46.size, ti46.bytes) := by kernel_rfl
theorem tab_a45 : Tryd.prog.underlying 45 = some ti45.d := by kernel_rfl
theorem tab_b45 : (Tryd.prog.info? 45).map (fun x => (x.zero, x.size, x.bytes)) = some (some ti45.zero, ti45.size, ti45.bytes) := by kernel_rfl
theorem tab_a44 : Tryd.prog.underlying 44 = some ti44.d := by kernel_rfl
theorem tab_b44 : (Tryd.prog.info? 44).map (fun x => (x.zero, x.size, x.bytes)) = some (some ti44.zero, ti44.size, ti44.bytes) := by kernel_rfl
theorem tab_a42 : Tryd.prog.underlying 42 = some ti42.d := by kernel_rfl
theorem tab_b42 : (Tryd.prog.info? 42).map (fun x => (x.zero, x.size, x.bytes)) = some (some ti42.zero, ti42.size, ti42.bytes) := by kernel_rfl
theorem tab_a41 : Tryd.prog.underlying 41 = some ti41.d := by kernel_rfl
theorem tab_b41 : (Tryd.prog.info? 41).map (fun x => (x.zero, x.size, x.bytes)) = some (some ti41.zero, ti41.size, ti41.bytes) := by kernel_rfl
theorem tab_a40 : Tryd.prog.underlying 40 = some ti40.d := by kernel_rfl
theorem tab_b40 : (Tryd.prog.info? 40).map (fun x => (x.zero, x.size, x.bytes)) = some (some ti40.zero, ti40.size, ti40.bytes) := by kernel_rfl
theorem tab_a39 : Tryd.prog.underlying 39 = some ti39.d := by kernel_rfl
theorem tab_b39 : (Tryd.prog.info? 39).map (fun x => (x.zero, x.size, x.bytes)) = some (some ti39.zero, ti39.size, ti39.bytes) := by kernel_rfl
theorem tab_a38 : Tryd.prog.underlying 38 = some ti38.d := by kernel_rfl
theorem tab_b38 : (Tryd.prog.info? 38).map (fun x => (x.zero, x.size, x.bytes)) = some (some ti38.zero, ti38.size, ti38.bytes) := by kernel_rfl
theorem tab_a37 : Tryd.prog.underlying 37 = some ti37.d := by kernel_rfl
theorem tab_b37 : (Tryd.prog.info? 37).map (fun x => (x.zero, x.size, x.bytes)) = some (some ti37.zero, ti37.size, ti37.bytes) := by kernel_rfl
theorem tab_a36 : Tryd.prog.underlying 36 = some ti36.d := by kernel_rfl
theorem tab_b36 : (Tryd.prog.info? 36).map (fun x => (x.zero, x.size, x.bytes)) = some (some ti36.zero, ti36.size, ti36.bytes) := by kernel_rfl
theorem tab_a35 : Tryd.prog.underlying 35 = some ti35.d := by kernel_rfl
theorem tab_b35 : (Tryd.prog.info? 35).map (fun x => (x.zero, x.size, x.bytes)) = some (some ti35.zero, ti35.size, ti35.bytes) := by kernel_rfl
theorem tab_a34 : Tryd.prog.underlying 34 = some ti34.d := by kernel_rfl
theorem tab_b34 : (Tryd.prog.info? 34).map (fun x => (x.zero, x.size, x.bytes)) = some (some ti34.zero, ti34.size, ti34.bytes) := by kernel_rfl
theorem tab_a33 : Tryd.prog.underlying 33 = some ti33.d := by kernel_rfl
theorem tab_b33 : (Tryd.prog.info? 33).map (fun x => (x.zero, x.size, x.bytes)) = some (some ti33.zero, ti33.size, ti33.bytes) := by kernel_rfl
theorem tab_a32 : Tryd.prog.underlying 32 = some ti32.d := by kernel_rfl
theorem tab_b32 : (Tryd.prog.info? 32).map (fun x => (x.zero, x.size, x.bytes)) = some (some ti32.zero, ti32.size, ti32.bytes) := by kernel_rfl
theorem tab_a31 : Tryd.prog.underlying 31 = some ti31.d := by kernel_rfl
theorem tab_b31 : (Tryd.prog.info? 31).map (fun x => (x.zero, x.size, x.bytes)) = some (some ti31.zero, ti31.size, ti31.bytes) := by kernel_rfl
theorem tab_a30 : Tryd.prog.underlying 30 = some ti30.d := by kernel_rfl
theorem tab_b30 : (Tryd.prog.info? 30).map (fun x => (x.zero, x.size, x.bytes)) = some (some ti30.zero, ti30.size, ti30.bytes) := by kernel_rfl
theorem tab_a29 : Tryd.prog.underlying 29 = some ti29.d := by kernel_rfl
theorem tab_b29 : (Tryd.prog.info? 29).map (fun x => (x.zero, x.size, x.bytes)) = some (some ti29.zero, ti29.size, ti29.bytes) := by kernel_rfl
theorem tab_a28 : Tryd.prog.underlying 28 = some ti28.d := by kernel_rfl
theorem tab_b28 : (Tryd.prog.info? 28).map (fun x => (x.zero, x.size, x.bytes)) = some (some ti28.zero, ti28.size, ti28.bytes) := by kernel_rfl
theorem tab_a27 : Tryd.prog.underlying 27 = some ti27.d := by kernel_rfl
theorem tab_b27 : (Tryd.prog.info? 27).map (fun x => (x.zero, x.size, x.bytes)) = some (some ti27.zero, ti27.size, ti27.bytes) := by kernel_rfl
theorem tab_a26 : Tryd.prog.underlying 26 = some ti26.d := by kernel_rfl
theorem tab_b26 : (Tryd.prog.info? 26).map (fun x => (x.zero, x.size, x.bytes)) = some (some ti26.zero, ti26.size, ti26.bytes) := by kernel_rfl
theorem tab_a25 : Tryd.prog.underlying 25 = some ti25.d := by kernel_rfl
theorem tab_b25 : (Tryd.prog.info? 25).map (fun x => (x.zero, x.size, x.bytes)) = some (some ti25.zero, ti25.size, ti25.bytes) := by kernel_rfl
theorem tab_a24 : Tryd.prog.underlying 24 = some ti24.d := by kernel_rfl
theorem tab_b24 : (Tryd.prog.info? 24).map (fun x => (x.zero, x.size, x.bytes)) = some (some ti24.zero, ti24.size, ti24.bytes) := by kernel_rfl
theorem tab_a23 : Tryd.prog.underlying 23 = some ti23.d := by kernel_rfl
theorem tab_b23 : (Tryd.prog.info? 23).map (fun x => (x.zero, x.size, x.bytes)) = some (some ti23.zero, ti23.size, ti23.bytes) := by kernel_rfl
theorem tab_a22 : Tryd.prog.underlying 22 = some ti22.d := by kernel_rfl
theorem tab_b22 : (Tryd.prog.info? 22).map (fun x => (x.zero, x.size, x.bytes)) = some (some ti22.zero, ti22.size, ti22.bytes) := by kernel_rfl
theorem tab_a21 : Tryd.prog.underlying 21 = some ti21.d := by kernel_rfl
theorem tab_b21 : (Tryd.prog.info? 21).map (fun x => (x.zero, x.size, x.bytes)) = some (some ti21.zero, ti21.size, ti21.bytes) := by kernel_rfl
theorem tab_a19 : Tryd.prog.underlying 19 = some ti19.d := by kernel_rfl
theorem tab_b19 : (Tryd.prog.info? 19).map (fun x => (x.zero, x.size, x.bytes)) = some (some ti19.zero, ti19.size, ti19.bytes) := by kernel_rfl
theorem tab_a13 : Tryd.prog.underlying 13 = some ti13.d := by kernel_rfl
theorem tab_b13 : (Tryd.prog.info? 13).map (fun x => (x.zero, x.size, x.bytes)) = some (some ti13.zero, ti13.size, ti13.bytes) := by kernel_rfl
theorem tab_a12 : Tryd.prog.underlying 12 = some ti12.d := by kernel_rfl
theorem tab_b12 : (Tryd.prog.info? 12).map (fun x => (x.zero, x.size, x.bytes)) = some (some ti12.zero, ti12.size, ti12.bytes) := by kernel_rfl
theorem tab_a9 : Tryd.prog.underlying 9 = some ti9.d := by kernel_rfl
theorem tab_b9 : (Tryd.prog.info? 9).map (fun x => (x.zero, x.size, x.bytes)) = some (some ti9.zero, ti9.size, ti9.bytes) := by kernel_rfl
theorem tab_a5 : Tryd.prog.underlying 5 = some ti5.d := by kernel_rfl
theorem tab_b5 : (Tryd.prog.info? 5).map (fun x => (x.zero, x.size, x.bytes)) = some (some ti5.zero, ti5.size, ti5.bytes) := by kernel_rfl
theorem tab_a4 : Tryd.prog.underlying 4 = some ti4.d := by kernel_rfl
theorem tab_b4 : (Tryd.prog.info? 4).map (fun x => (x.zero, x.size, x.bytes)) = some (some ti4.zero, ti4.size, ti4.bytes) := by kernel_rfl
theorem tab_a3 : Tryd.prog.underlying 3 = some ti3.d := by kernel_rfl
theorem tab_b3 : (Tryd.prog.info? 3).map (fun x => (x.zero, x.size, x.bytes)) = some (some ti3.zero, ti3.size, ti3.bytes) := by kernel_rfl
theorem tab_a2 : Tryd.prog.underlying 2 = some ti2.d := by kernel_rfl
theorem tab_b2 : (Tryd.prog.info? 2).map (fun x => (x.zero, x.size, x.bytes)) = some (some ti2.zero, ti2.size, ti2.bytes) := by kernel_rfl
theorem tab_a1 : Tryd.prog.underlying 1 = some ti1.d := by kernel_rfl
theorem tab_b1 : (Tryd.prog.info? 1).map (fun x => (x.zero, x.size, x.bytes)) = some (some ti1.zero, ti1.size, ti1.bytes) := by kernel_rfl
theorem tab_ok : tabOK Tryd.prog tab := tabOK_cons tab_a1 tab_b1 (tabOK_cons tab_a2 tab_b2 (tabOK_cons tab_a3 tab_b3 (tabOK_cons tab_a4 tab_b4 (tabOK_cons tab_a5 tab_b5 (tabOK_cons tab_a9 tab_b9 (tabOK_cons tab_a12 tab_b12 (tabOK_cons tab_a13 tab_b13 (tabOK_cons tab_a19 tab_b19 (tabOK_cons tab_a21 tab_b21 (tabOK_cons tab_a22 tab_b22 (tabOK_cons tab_a23 tab_b23 (tabOK_cons tab_a24 tab_b24 (tabOK_cons tab_a25 tab_b25 (tabOK_cons tab_a26 tab_b26 (tabOK_cons tab_a27 tab_b27 (tabOK_cons tab_a28 tab_b28 (tabOK_cons tab_a29 tab_b29 (tabOK_cons tab_a30 tab_b30 (tabOK_cons tab_a31 tab_b31 (tabOK_cons tab_a32 tab_b32 (tabOK_cons tab_a33 tab_b33 (tabOK_cons tab_a34 tab_b34 (tabOK_cons tab_a35 tab_b35 (tabOK_cons tab_a36 tab_b36 (tabOK_cons tab_a37 tab_b37 (tabOK_cons tab_a38 tab_b38 (tabOK_cons tab_a39 tab_b39 (tabOK_cons tab_a40 tab_b40 (tabOK_cons tab_a41 tab_b41 (tabOK_cons tab_a42 tab_b42 (tabOK_cons tab_a44 tab_b44 (tabOK_cons tab_a45 tab_b45 (tabOK_cons tab_a46 tab_b46 (tabOK_cons tab_a48 tab_b48 (tabOK_cons tab_a49 tab_b49 (tabOK_cons tab_a50 tab_b50 (tabOK_cons tab_a51 tab_b51 (tabOK_cons tab_a52 tab_b52 (tabOK_cons tab_a53 tab_b53 (tabOK_cons tab_a54 tab_b54 (tabOK_cons tab_a55 tab_b55 (tabOK_cons tab_a56 tab_b56 (tabOK_cons tab_a57 tab_b57 (tabOK_cons tab_a58 tab_b58 (tabOK_cons tab_a59 tab_b59 (tabOK_cons tab_a60 tab_b60 (tabOK_cons tab_a61 tab_b61 (tabOK_cons tab_a62 tab_b62 (tabOK_cons tab_a63 tab_b63 (tabOK_cons tab_a64 tab_b64 (tabOK_cons tab_a65 tab_b65 (tabOK_cons tab_a66 tab_b66 (tabOK_cons tab_a67 tab_b67 (tabOK_cons tab_a68 tab_b68 (tabOK_cons tab_a70 tab_b70 (tabOK_cons tab_a71 tab_b71 (tabOK_cons tab_a72 tab_b72 (tabOK_cons tab_a73 tab_b73 (tabOK_cons tab_a74 tab_b74 (tabOK_cons tab_a75 tab_b75 (tabOK_cons tab_a76 tab_b76 (tabOK_cons tab_a78 tab_b78 (tabOK_cons tab_a79 tab_b79 (tabOK_cons tab_a80 tab_b80 (tabOK_cons tab_a81 tab_b81 (tabOK_cons tab_a82 tab_b82 (tabOK_cons tab_a83 tab_b83 (tabOK_cons tab_a84 tab_b84 (tabOK_cons tab_a85 tab_b85 (tabOK_cons tab_a86 tab_b86 (tabOK_cons tab_a87 tab_b87 (tabOK_cons tab_a88 tab_b88 (tabOK_cons tab_a89 tab_b89 (tabOK_cons tab_a90 tab_b90 (tabOK_cons tab_a91 tab_b91 (tabOK_cons tab_a92 tab_b92 (tabOK_cons tab_a93 tab_b93 (tabOK_cons tab_a94 tab_b94 (tabOK_cons tab_a95 tab_b95 (tabOK_cons tab_a96 tab_b96 (tabOK_cons tab_a97 tab_b97 (tabOK_cons tab_a98 tab_b98 (tabOK_cons tab_a100 tab_b100 (tabOK_cons tab_a101 tab_b101 (tabOK_cons tab_a102 tab_b102 (tabOK_cons tab_a103 tab_b103 (tabOK_cons tab_a104 tab_b104 (tabOK_cons tab_a105 tab_b105 (tabOK_cons tab_a106 tab_b106 (tabOK_cons tab_a107 tab_b107 (tabOK_cons tab_a108 tab_b108 (tabOK_cons tab_a109 tab_b109 (tabOK_cons tab_a110 tab_b110 (tabOK_cons tab_a116 tab_b116 (tabOK_cons tab_a119 tab_b119 (tabOK_cons tab_a120 tab_b120 (tabOK_nil _)))))))))))))))))))))))))))))))))))))))))))))))))))))))))))))))))))))))))))))))))))))))))))))))))
end Go.Proofs.YtehimiadpgbhmaaDoor

/-
  What rel.whole, Check, right and two do. Own work.
-/
namespace Go.Proofs.YtehimiadpgbhmaaDoor
open Go.AM
set_option maxRecDepth 100000

theorem whole_val (n : Int) (h : n < 64) : IntKind.u64.wrap (shlI .u64 1 n - 1) = un (mask n) := by
  rw [un_one, shl_un, sub_un, mask, if_neg (by omega)]

theorem whole_ok (n : Int) (w : World) (h0 : 0 ≤ n) : Gives Tryd.prog 52 [.int .i64 n] w (.int .u64 (un (mask n))) := by
  refine Gives.of_run Tryd.func52 rfl (by show 1 ≤ 8; decide) ?_
  by_cases h : n ≥ 64
  · refine RunF_sound tab_ok noX_local 100 [true] _ _ rfl ?_ ?_
    · simpa using h
    · refine Run.retP tab_ok Tryd.func52 rfl trivial (fun M => ?_)
      rw [mask, if_pos h]; rfl
  · refine RunF_sound tab_ok noX_local 100 [false] _ _ rfl ?_ ?_
    · simpa using ⟨by omega, h0⟩
    · refine Run.retP tab_ok Tryd.func52 rfl trivial (fun M => ?_)
      show Value.int _ _ = _
      rw [whole_val n (by omega)]

theorem whole_enters : Enters Tryd.prog 52 := enters_mk Tryd.func52 (by decide) rfl

/-- Is a row right? -/
def good (r : Rl) (i : Nat) : Bool := !((decide ((i : Int) ≥ r.n) && (r.row i != 0#64)) || (r.row i &&& ~~~(mask r.n)) != 0#64)

open Classical in
noncomputable def checkI (r : Rl) : Int := if r.n < 0 ∨ r.n > 64 then 20 else if ∀ i, i < 64 → good r i = true then 0 else 20

open Classical in
theorem checkI_from (r : Rl) (k : Nat) (h : ∀ i, i < k → good r i = true) (h1 : ¬ r.n < 0) (h2 : ¬ r.n > 64) : checkI r = if ∀ i, k ≤ i → i < 64 → good r i = true then 0 else 20 := by
  unfold checkI
  rw [if_neg (by omega)]
  have e : (∀ i, i < 64 → good r i = true) ↔ (∀ i, k ≤ i → i < 64 → good r i = true) := by
    constructor
    · intro h' i _ hi; exact h' i hi
    · intro h' i hi
      rcases Nat.lt_or_ge i k with hik | hik
      · exact h i hik
      · exact h' i hik hi
  simp only [e]

theorem check_ok (r : Rl) (w : World) : Gives Tryd.prog 55 [encRel r] w (.int .i64 (checkI r)) := by
  refine Gives.of_run Tryd.func55 rfl (by show 1 ≤ 36; decide) ?_
  by_cases h1 : r.n < 0
  · refine RunF_sound tab_ok noX_local 100 [true, true] _ _ rfl ?_ ?_
    · simp [h1]
    · refine Run.retP tab_ok Tryd.func55 rfl trivial (fun M => ?_)
      rw [checkI, if_pos (.inl h1)]; rfl
  by_cases h2 : r.n > 64
  · refine RunF_sound tab_ok noX_local 100 [false, true] _ _ rfl ?_ ?_
    · simp; omega
    · refine Run.retP tab_ok Tryd.func55 rfl trivial (fun M => ?_)
      rw [checkI, if_pos (.inr h2)]; rfl
  refine RunF_sound tab_ok noX_local 100 [false, false] _ _ rfl ?_ ?_
  · simp; omega
  suffices H : ∀ d k, k ≤ 64 → 64 - k = d → (∀ i, i < k → good r i = true) → ∀ σ, inT σ.t [(1, .ptr 0 0), (14, .v (.agg (rowV r).toArray)), (15, .v (.int .i64 (k : Int)))] → inT σ.h [(0, .cells 32 [.vals 65 (relV r)])] → Run _ _ σ by
    exact H 64 0 (by omega) rfl (fun i hi => by omega) _ ⟨rfl, congrArg (fun l : List Value => some (AV.v (Value.agg l.toArray))) (relV_drop r), rfl, trivial⟩ ⟨rfl, trivial⟩
  intro d
  induction d with
  | zero => 
    intro k hk hd hg σ ht hh
    refine Run.to ?_ ht hh (n' := 1)
    refine RunF_sound tab_ok noX_local 100 [false] _ _ rfl ?_ ?_
    · simp; omega
    · refine Run.retP tab_ok Tryd.func55 rfl trivial (fun M => ?_)
      rw [checkI_from r k hg h1 h2, if_pos (fun i h3 h4 => by omega)]; rfl
  | succ d ih => 
    intro k hk hd hg σ ht hh
    refine Run.to ?_ ht hh (n' := 1)
    have hk' : k < 64 := by omega
    have e := intAt_rowV r k hk'
    have e2 := rowV_get r k hk'
    have h0 : 0 ≤ r.n := by omega
    have bad : good r k = false → checkI r = 20 := by
      intro hb
      rw [checkI_from r k hg h1 h2, if_neg (fun h => by have := h k (Nat.le_refl _) hk'; rw [hb] at this; cases this)]
    have nextk : good r k = true → ∀ i, i < k + 1 → good r i = true := by
      intro hb i hi
      rcases Nat.lt_or_ge i k with h | h
      · exact hg i h
      · obtain rfl : i = k := by omega
        exact hb
    by_cases c1 : (k : Int) ≥ r.n
    · by_cases c2 : r.row k = 0#64
      · have c3 : (r.row k &&& ~~~(mask r.n)) = 0#64 := by rw [c2]; simp
        refine RunF_sound tab_ok noX_local 100 [true, true, false] _ _ rfl ?_ ?_
        · simp [e, e2, c1, c2]; omega
        refine Run.callFn noX_local rfl rfl rfl rfl rfl rfl rfl whole_enters rfl (fun w' _ => whole_ok r.n w' h0) ?_
        refine RunF_sound tab_ok noX_local 100 [false] _ _ rfl ?_ ?_
        · simp [e, c3]
        exact ih (k + 1) (by omega) (by omega) (nextk (by simp [good, c2])) _ ⟨rfl, rfl, i64_eq (wrap_succ (by omega)), trivial⟩ ⟨rfl, trivial⟩
      · refine RunF_sound tab_ok noX_local 100 [true, true, true] _ _ rfl ?_ ?_
        · simp [e, e2, c1, c2]; omega
        refine Run.retP tab_ok Tryd.func55 rfl trivial (fun M => ?_)
        rw [bad (by simp [good, c1, c2])]; rfl
    · refine RunF_sound tab_ok noX_local 100 [true, false] _ _ rfl ?_ ?_
      · simp [e, e2]; omega
      refine Run.callFn noX_local rfl rfl rfl rfl rfl rfl rfl whole_enters rfl (fun w' _ => whole_ok r.n w' h0) ?_
      by_cases c3 : (r.row k &&& ~~~(mask r.n)) = 0#64
      · refine RunF_sound tab_ok noX_local 100 [false] _ _ rfl ?_ ?_
        · simp [e, c3]
        exact ih (k + 1) (by omega) (by omega) (nextk (by simp [good, c1, c3])) _ ⟨rfl, rfl, i64_eq (wrap_succ (by omega)), trivial⟩ ⟨rfl, trivial⟩
      · refine RunF_sound tab_ok noX_local 100 [true] _ _ rfl ?_ ?_
        · simp [e, c3]
        refine Run.retP tab_ok Tryd.func55 rfl trivial (fun M => ?_)
        rw [bad (by simp [good, c3])]; rfl

theorem check_enters : Enters Tryd.prog 55 := enters_mk Tryd.func55 (by decide) rfl
end Go.Proofs.YtehimiadpgbhmaaDoor

/-
  The count of a word's one bits, as math/bits reckons it: fields of bits summed side by side. Plain arithmetic; of no program. Own work.
-/
namespace Go.AM

/-- How many of the first n bits are one. -/
def pop : Nat → Nat → Nat
  | 0, _ => 0
  | n + 1, x => x % 2 + pop n (x / 2)

def dsum (k : Nat) : Nat → Nat → Nat
  | 0, _ => 0
  | m + 1, x => x % 2 ^ k + dsum k m (x / 2 ^ k)

def dle (k : Nat) (B : Nat) : Nat → Nat → Prop
  | 0, _ => True
  | m + 1, x => x % 2 ^ k ≤ B ∧ dle k B m (x / 2 ^ k)

def msk (k : Nat) : Nat → Nat
  | 0 => 0
  | m + 1 => (2 ^ k - 1) + 2 ^ (2 * k) * msk k m

def st (k m x : Nat) : Nat := ((x / 2 ^ k) &&& msk k m) + (x &&& msk k m)

theorem and_split (j x c d : Nat) (hc : c < 2 ^ j) : x &&& (c + 2 ^ j * d) = ((x % 2 ^ j) &&& c) + 2 ^ j * ((x / 2 ^ j) &&& d) := by
  have h1 : (x % 2 ^ j) &&& c < 2 ^ j := Nat.and_lt_two_pow _ hc
  apply Nat.eq_of_testBit_eq
  intro i
  rw [Nat.add_comm c, Nat.add_comm (_ &&& c), Nat.testBit_and, Nat.testBit_two_pow_mul_add _ hc, Nat.testBit_two_pow_mul_add _ h1]
  by_cases hi : i < j
  · simp [hi, Nat.testBit_mod_two_pow]
  · simp only [hi, if_false, Nat.testBit_and, Nat.testBit_div_two_pow]
    rw [show i - j + j = i by omega]

theorem st_succ (k m x : Nat) (hk : 0 < k) : st k (m + 1) x = (x % 2 ^ k + x / 2 ^ k % 2 ^ k) + 2 ^ (2 * k) * st k m (x / 2 ^ (2 * k)) := by
  have hp : 2 ^ (2 * k) = 2 ^ k * 2 ^ k := by rw [Nat.two_mul, Nat.pow_add]
  have hpos : 0 < 2 ^ k := Nat.two_pow_pos k
  have hc : 2 ^ k - 1 < 2 ^ (2 * k) := by
    have : 2 ^ k ≤ 2 ^ k * 2 ^ k := Nat.le_mul_of_pos_right _ hpos
    omega
  unfold st
  simp only [msk]
  rw [and_split _ _ _ _ hc, and_split _ _ _ _ hc, Nat.and_two_pow_sub_one_eq_mod, Nat.and_two_pow_sub_one_eq_mod]
  have e1 : x / 2 ^ k % 2 ^ (2 * k) % 2 ^ k = x / 2 ^ k % 2 ^ k := by rw [hp, Nat.mod_mul_right_mod]
  have e2 : x % 2 ^ (2 * k) % 2 ^ k = x % 2 ^ k := by rw [hp, Nat.mod_mul_right_mod]
  have e3 : x / 2 ^ k / 2 ^ (2 * k) = x / 2 ^ (2 * k) / 2 ^ k := by rw [Nat.div_div_eq_div_mul, Nat.div_div_eq_div_mul, Nat.mul_comm]
  rw [e1, e2, e3, Nat.mul_add]
  omega

theorem two_lt (k : Nat) (hk : 0 < k) : 2 ^ k - 1 + (2 ^ k - 1) < 2 ^ (2 * k) := by
  have hp : 2 ^ (2 * k) = 2 ^ k * 2 ^ k := by rw [Nat.two_mul, Nat.pow_add]
  have h2 : 2 ≤ 2 ^ k := by
    have : 2 ^ 1 ≤ 2 ^ k := Nat.pow_le_pow_right (by decide) hk
    simpa using this
  have : 2 * 2 ^ k ≤ 2 ^ k * 2 ^ k := Nat.mul_le_mul_right _ h2
  omega

theorem st_parts (k m x : Nat) (hk : 0 < k) : st k (m + 1) x % 2 ^ (2 * k) = x % 2 ^ k + x / 2 ^ k % 2 ^ k ∧ st k (m + 1) x / 2 ^ (2 * k) = st k m (x / 2 ^ (2 * k)) := by
  rw [st_succ k m x hk]
  have h1 := Nat.mod_lt x (Nat.two_pow_pos k)
  have h2 := Nat.mod_lt (x / 2 ^ k) (Nat.two_pow_pos k)
  have h3 := two_lt k hk
  have hlt : x % 2 ^ k + x / 2 ^ k % 2 ^ k < 2 ^ (2 * k) := by omega
  constructor
  · rw [Nat.add_mul_mod_self_left, Nat.mod_eq_of_lt hlt]
  · rw [Nat.add_mul_div_left _ _ (Nat.two_pow_pos _), Nat.div_eq_of_lt hlt, Nat.zero_add]

theorem div_two (k x : Nat) : x / 2 ^ k / 2 ^ k = x / 2 ^ (2 * k) := by rw [Nat.div_div_eq_div_mul, ← Nat.pow_add, Nat.two_mul]

theorem dsum_st (k : Nat) (hk : 0 < k) : ∀ m x, dsum (2 * k) m (st k m x) = dsum k (2 * m) x
  | 0, x => rfl
  | m + 1, x => by
    obtain ⟨h1, h2⟩ := st_parts k m x hk
    rw [show 2 * (m + 1) = 2 * m + 1 + 1 by omega]
    simp only [dsum]
    rw [h1, h2, dsum_st k hk m, div_two]
    omega

theorem dle_st (k B : Nat) (hk : 0 < k) : ∀ m x, dle k B (2 * m) x → dle (2 * k) (2 * B) m (st k m x)
  | 0, x, _ => trivial
  | m + 1, x, h => by
    obtain ⟨h1, h2⟩ := st_parts k m x hk
    rw [show 2 * (m + 1) = 2 * m + 1 + 1 by omega] at h
    simp only [dle] at h ⊢
    rw [h1, h2]
    refine ⟨by omega, dle_st k B hk m _ ?_⟩
    rw [← div_two]; exact h.2.2

/-- Where the fields are small the sum can be masked once. -/
theorem once (k B : Nat) (hk : 0 < k) (hB : 2 * B < 2 ^ k) : ∀ m x, dle k B (2 * m) x → x < 2 ^ (2 * k * m) → (x / 2 ^ k + x) &&& msk k m = st k m x
  | 0, x, _, _ => by simp [st, msk]
  | m + 1, x, h, hx => by
    have hp : 2 ^ (2 * k) = 2 ^ k * 2 ^ k := by rw [Nat.two_mul, Nat.pow_add]
    have hpos : 0 < 2 ^ k := Nat.two_pow_pos k
    have hc : 2 ^ k - 1 < 2 ^ (2 * k) := by
      have : 2 ^ k ≤ 2 ^ k * 2 ^ k := Nat.le_mul_of_pos_right _ hpos
      omega
    rw [show 2 * (m + 1) = 2 * m + 1 + 1 by omega] at h
    simp only [dle] at h
    obtain ⟨ha, hb, hr⟩ := h
    rw [div_two] at hr
    have hx' : x / 2 ^ (2 * k) < 2 ^ (2 * k * m) := by
      rw [Nat.div_lt_iff_lt_mul (Nat.two_pow_pos _), ← Nat.pow_add]
      rwa [show 2 * k * m + 2 * k = 2 * k * (m + 1) by rw [Nat.mul_add, Nat.mul_one]]
    have hlow : (x / 2 ^ (2 * k)) % 2 ^ k ≤ B := by
      cases m with
      | zero =>
        have h0 : x / 2 ^ (2 * k) = 0 := by
          have h1 : 2 ^ (2 * k * 0) = 1 := rfl
          rw [h1] at hx'; exact Nat.lt_one_iff.1 hx'
        rw [h0]; simp
      | succ m =>
        rw [show 2 * (m + 1) = 2 * m + 1 + 1 by omega] at hr
        simp only [dle] at hr
        exact hr.1
    have ih := once k B hk hB m _ hr hx'
    rw [st_succ k m x hk, ← ih]
    simp only [msk]
    rw [and_split _ _ _ _ hc, Nat.and_two_pow_sub_one_eq_mod]
    -- the fields of x
    generalize hd0 : x % 2 ^ k = d0 at *
    generalize hd1 : x / 2 ^ k % 2 ^ k = d1 at *
    generalize hx2 : x / 2 ^ (2 * k) = x2 at *
    have e1 : x / 2 ^ k = d1 + 2 ^ k * x2 := by rw [← hd1, ← hx2, ← div_two]; exact (Nat.mod_add_div _ _).symm
    have e0 : x = d0 + 2 ^ k * (d1 + 2 ^ k * x2) := by rw [← e1, ← hd0]; exact (Nat.mod_add_div _ _).symm
    have eS : x / 2 ^ k + x = (d0 + d1) + 2 ^ k * (x2 + d1 + 2 ^ k * x2) := by
      rw [e1]; conv => lhs; rw [e0]
      simp only [Nat.mul_add]
      omega
    have q1 : (x / 2 ^ k + x) % 2 ^ (2 * k) % 2 ^ k = d0 + d1 := by
      rw [hp, Nat.mod_mul_right_mod, eS, Nat.add_mul_mod_self_left, Nat.mod_eq_of_lt (by omega)]
    have q2 : (x / 2 ^ k + x) / 2 ^ (2 * k) = x2 / 2 ^ k + x2 := by
      rw [eS, hp, ← Nat.div_div_eq_div_mul, Nat.add_mul_div_left _ _ hpos, Nat.div_eq_of_lt (show d0 + d1 < 2 ^ k by omega), Nat.zero_add, Nat.add_mul_div_left _ _ hpos]
      congr 1
      have : x2 + d1 = (x2 % 2 ^ k + d1) + 2 ^ k * (x2 / 2 ^ k) := by have := Nat.mod_add_div x2 (2 ^ k); omega
      rw [this, Nat.add_mul_div_left _ _ hpos, Nat.div_eq_of_lt (show x2 % 2 ^ k + d1 < 2 ^ k by omega), Nat.zero_add]
    rw [q1, q2]

theorem st_lt (k : Nat) (hk : 0 < k) : ∀ m x, st k m x < 2 ^ (2 * k * m)
  | 0, x => by simp [st, msk]
  | m + 1, x => by
    obtain ⟨h1, h2⟩ := st_parts k m x hk
    rw [show 2 * k * (m + 1) = 2 * k * m + 2 * k by rw [Nat.mul_add, Nat.mul_one], Nat.pow_add, ← Nat.div_lt_iff_lt_mul (Nat.two_pow_pos _), h2]
    exact st_lt k hk m _

theorem dle_bits : ∀ m x, dle 1 1 m x
  | 0, _ => trivial
  | m + 1, x => ⟨by have := Nat.mod_lt x (show 0 < 2 ^ 1 by decide); omega, dle_bits m _⟩

theorem dsum_bits : ∀ m x, dsum 1 m x = pop m x
  | 0, _ => rfl
  | m + 1, x => by simp only [dsum, pop, Nat.pow_one, dsum_bits m]

theorem msk0 : msk 1 32 = 6148914691236517205 := by decide
theorem msk1 : msk 2 16 = 3689348814741910323 := by decide
theorem msk2 : msk 4 8 = 1085102592571150095 := by decide

/-- The last three sums: eight small bytes. -/
theorem bytes_sum (x : Nat) (h : dle 8 8 8 x) (hx : x < 18446744073709551616) :
    (let y := (x + x / 256) % 18446744073709551616
     let z := (y + y / 65536) % 18446744073709551616
     (z + z / 4294967296) % 18446744073709551616) % 128 = dsum 8 8 x := by
  simp only [dle, dsum, Nat.reducePow] at h ⊢
  obtain ⟨h0, h1, h2, h3, h4, h5, h6, h7, -⟩ := h
  generalize hx1 : x / 256 = x1 at *
  generalize hx2 : x1 / 256 = x2 at *
  generalize hx3 : x2 / 256 = x3 at *
  generalize hx4 : x3 / 256 = x4 at *
  generalize hx5 : x4 / 256 = x5 at *
  generalize hx6 : x5 / 256 = x6 at *
  generalize hx7 : x6 / 256 = x7 at *
  obtain ⟨c0, e0⟩ : ∃ c, c = x % 256 := ⟨_, rfl⟩
  obtain ⟨c1, e1⟩ : ∃ c, c = x1 % 256 := ⟨_, rfl⟩
  obtain ⟨c2, e2⟩ : ∃ c, c = x2 % 256 := ⟨_, rfl⟩
  obtain ⟨c3, e3⟩ : ∃ c, c = x3 % 256 := ⟨_, rfl⟩
  obtain ⟨c4, e4⟩ : ∃ c, c = x4 % 256 := ⟨_, rfl⟩
  obtain ⟨c5, e5⟩ : ∃ c, c = x5 % 256 := ⟨_, rfl⟩
  obtain ⟨c6, e6⟩ : ∃ c, c = x6 % 256 := ⟨_, rfl⟩
  obtain ⟨c7, e7⟩ : ∃ c, c = x7 % 256 := ⟨_, rfl⟩
  have k7 : x7 = c7 := by omega
  have k6 : x6 = c6 + 256 * c7 := by omega
  have k5 : x5 = c5 + 256 * x6 := by omega
  have k4 : x4 = c4 + 256 * x5 := by omega
  have k3 : x3 = c3 + 256 * x4 := by omega
  have k2 : x2 = c2 + 256 * x3 := by omega
  have k1 : x1 = c1 + 256 * x2 := by omega
  have k0 : x = c0 + 256 * x1 := by omega
  rw [← e0, ← e1, ← e2, ← e3, ← e4, ← e5, ← e6, ← e7]
  rw [← e0] at h0
  rw [← e1] at h1
  rw [← e2] at h2
  rw [← e3] at h3
  rw [← e4] at h4
  rw [← e5] at h5
  rw [← e6] at h6
  rw [← e7] at h7
  clear e0 e1 e2 e3 e4 e5 e6 e7 hx1 hx2 hx3 hx4 hx5 hx6 hx7 hx
  have hx1 : x1 = c1 + 256 * c2 + 65536 * c3 + 16777216 * c4 + 4294967296 * c5 + 1099511627776 * c6 + 281474976710656 * c7 := by omega
  have y1 : (x + x1) % 18446744073709551616 = (c0 + c1) + 256 * (c1 + c2) + 65536 * (c2 + c3) + 16777216 * (c3 + c4) + 4294967296 * (c4 + c5) + 1099511627776 * (c5 + c6) + 281474976710656 * (c6 + c7) + 72057594037927936 * c7 := by omega
  clear hx1 k0 k1 k2 k3 k4 k5 k6 k7
  rw [y1]
  clear y1
  generalize hy : (c0 + c1) + 256 * (c1 + c2) + 65536 * (c2 + c3) + 16777216 * (c3 + c4) + 4294967296 * (c4 + c5) + 1099511627776 * (c5 + c6) + 281474976710656 * (c6 + c7) + 72057594037927936 * c7 = y
  have y2 : y / 65536 = (c2 + c3) + 256 * (c3 + c4) + 65536 * (c4 + c5) + 16777216 * (c5 + c6) + 4294967296 * (c6 + c7) + 1099511627776 * c7 := by omega
  have z1 : (y + y / 65536) % 18446744073709551616 = (c0 + c1 + c2 + c3) + 256 * (c1 + c2 + c3 + c4) + 65536 * (c2 + c3 + c4 + c5) + 16777216 * (c3 + c4 + c5 + c6) + 4294967296 * (c4 + c5 + c6 + c7) + 1099511627776 * (c5 + c6 + c7) + 281474976710656 * (c6 + c7) + 72057594037927936 * c7 := by omega
  rw [z1]
  clear z1 y2 hy
  generalize hz : (c0 + c1 + c2 + c3) + 256 * (c1 + c2 + c3 + c4) + 65536 * (c2 + c3 + c4 + c5) + 16777216 * (c3 + c4 + c5 + c6) + 4294967296 * (c4 + c5 + c6 + c7) + 1099511627776 * (c5 + c6 + c7) + 281474976710656 * (c6 + c7) + 72057594037927936 * c7 = z
  have z2 : z / 4294967296 = (c4 + c5 + c6 + c7) + 256 * (c5 + c6 + c7) + 65536 * (c6 + c7) + 16777216 * c7 := by omega
  omega

/-- bits.OnesCount64's own reckoning, over numbers. -/
theorem pop_swar (x : Nat) (hx : x < 18446744073709551616) :
    (let a := ((x / 2 &&& 6148914691236517205) + (x &&& 6148914691236517205)) % 18446744073709551616
     let b := ((a / 4 &&& 3689348814741910323) + (a &&& 3689348814741910323)) % 18446744073709551616
     let c := (b / 16 + b) % 18446744073709551616 &&& 1085102592571150095
     let y := (c + c / 256) % 18446744073709551616
     let z := (y + y / 65536) % 18446744073709551616
     (z + z / 4294967296) % 18446744073709551616) % 128 = pop 64 x := by
  have ha : (x / 2 &&& 6148914691236517205) + (x &&& 6148914691236517205) = st 1 32 x := by unfold st; rw [msk0]
  have la := st_lt 1 (by decide) 32 x
  have hb : (st 1 32 x / 4 &&& 3689348814741910323) + (st 1 32 x &&& 3689348814741910323) = st 2 16 (st 1 32 x) := by
    rw [← msk1]; rfl
  have lb := st_lt 2 (by decide) 16 (st 1 32 x)
  have d1 := dle_bits 64 x
  have d2 := dle_st 1 1 (by decide) 32 x d1
  have d3 := dle_st 2 2 (by decide) 16 _ d2
  have hc := once 4 4 (by decide) (by decide) 8 _ d3 (by simpa using lb)
  have d4 := dle_st 4 4 (by decide) 8 _ d3
  have lc := st_lt 4 (by decide) 8 (st 2 16 (st 1 32 x))
  have s1 := dsum_st 1 (by decide) 32 x
  have s2 := dsum_st 2 (by decide) 16 (st 1 32 x)
  have s3 := dsum_st 4 (by decide) 8 (st 2 16 (st 1 32 x))
  simp only [Nat.reduceMul, Nat.reducePow] at *
  rw [ha, Nat.mod_eq_of_lt la, hb, Nat.mod_eq_of_lt lb]
  rw [← dsum_bits, ← s1, ← s2, ← s3, ← bytes_sum _ d4 lc]
  generalize hg : st 2 16 (st 1 32 x) = b at *
  have hsm : b / 16 + b < 18446744073709551616 := by
    simp only [dle, Nat.reducePow] at d3
    omega
  rw [Nat.mod_eq_of_lt hsm]
  rw [msk2] at hc
  rw [hc]

theorem pop_le : ∀ n x, pop n x ≤ n
  | 0, _ => Nat.le_refl _
  | n + 1, x => by have := pop_le n (x / 2); simp only [pop]; omega

end Go.AM
