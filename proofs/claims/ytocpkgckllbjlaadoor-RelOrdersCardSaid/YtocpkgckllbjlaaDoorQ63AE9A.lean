/-
  Own work, merged: Tab, R1, R2, R3, R4, R5, R6, R7.
-/
import Derived.AtR
import Derived.Below
import Derived.ChangeKeysEq
import Derived.KernelRfl
import Derived.Laws.AppendOwn
import Derived.Laws.BytesString
import Derived.Laws.Cells
import Derived.Laws.CopyRow
import Derived.Laws.Entries
import Derived.Laws.Rows
import Derived.Laws.Small
import Derived.Laws.StructEq
import Derived.Maps.AppendAt
import Derived.Orders
import Derived.RangeFuncRecord
import Derived.Test.YtocpkgckllbjlaaDoorProg
import Derived.Test.YtocpkgckllbjlaaDoorQ992F6B
/- The table of this seat's types, as the program has them. Printed by a program of our own off the translation. -/
namespace Go.Proofs.YtocpkgckllbjlaaDoor
open Go.AM

def ti1 : TI := ⟨.func #[] #[] false, 1, 8, .nilFunc⟩
def ti2 : TI := ⟨.int .i64, 1, 8, (.int .i64 0)⟩
def ti3 : TI := ⟨.int .i64, 1, 8, (.int .i64 0)⟩
def ti4 : TI := ⟨.bool, 1, 1, (.bool false)⟩
def ti5 : TI := ⟨.int .u8, 1, 1, (.int .u8 0)⟩
def ti9 : TI := ⟨.string, 1, 16, (.string ⟨#[]⟩)⟩
def ti12 : TI := ⟨.int .u64, 1, 8, (.int .u64 0)⟩
def z13 : List Value := [(.string ⟨#[]⟩)] ++ [(.int .u64 0)]
def ti13 : TI := ⟨.struct #[{ name := "msg", type := 9, offset := 0, embedded := false, tag := "", pkgPath := "runtime", byteOffset := 0 }, { name := "addr", type := 12, offset := 1, embedded := false, tag := "", pkgPath := "runtime", byteOffset := 16 }], 2, 24, .agg z13.toArray⟩
def z19 : List Value := [(.pointer none)]
def ti19 : TI := ⟨.struct #[{ name := "typ", type := 17, offset := 0, embedded := false, tag := "", pkgPath := "internal/runtime/maps", byteOffset := 0 }], 1, 8, .agg z19.toArray⟩
def ti21 : TI := ⟨.int .i32, 1, 4, (.int .i32 0)⟩
def ti22 : TI := ⟨.int .u64, 1, 8, (.int .u64 0)⟩
def z23 : List Value := List.replicate 64 (.int .u64 0)
def ti23 : TI := ⟨.array 64 22, 64, 512, .agg z23.toArray⟩
def z24 : List Value := [(.int .i64 0)] ++ List.replicate 64 (.int .u64 0)
def ti24 : TI := ⟨.struct #[{ name := "N", type := 3, offset := 0, embedded := false, tag := "", pkgPath := "", byteOffset := 0 }, { name := "Rows", type := 23, offset := 1, embedded := false, tag := "", pkgPath := "", byteOffset := 8 }], 65, 520, .agg z24.toArray⟩
def z25 : List Value := [(.int .i64 0)] ++ List.replicate 64 (.int .u64 0)
def ti25 : TI := ⟨.struct #[{ name := "N", type := 3, offset := 0, embedded := false, tag := "", pkgPath := "", byteOffset := 0 }, { name := "Rows", type := 23, offset := 1, embedded := false, tag := "", pkgPath := "", byteOffset := 8 }], 65, 520, .agg z25.toArray⟩
def ti26 : TI := ⟨.func #[74] #[] false, 1, 8, .nilFunc⟩
def ti27 : TI := ⟨.func #[74] #[] false, 1, 8, .nilFunc⟩
def ti28 : TI := ⟨.func #[25] #[27] false, 1, 8, .nilFunc⟩
def ti29 : TI := ⟨.slice 67, 1, 24, (.slice none 0 0)⟩
def ti30 : TI := ⟨.func #[25] #[29] false, 1, 8, .nilFunc⟩
def ti31 : TI := ⟨.func #[25] #[3] false, 1, 8, .nilFunc⟩
def ti32 : TI := ⟨.func #[25, 3, 3] #[4] false, 1, 8, .nilFunc⟩
def ti33 : TI := ⟨.func #[25] #[25] false, 1, 8, .nilFunc⟩
def ti34 : TI := ⟨.func #[27, 3] #[29] false, 1, 8, .nilFunc⟩
def ti35 : TI := ⟨.func #[29, 29] #[4] false, 1, 8, .nilFunc⟩
def ti36 : TI := ⟨.func #[25, 3, 3, 3] #[4] false, 1, 8, .nilFunc⟩
def ti37 : TI := ⟨.int .u64, 1, 8, (.int .u64 0)⟩
def ti38 : TI := ⟨.func #[25, 25] #[25] false, 1, 8, .nilFunc⟩
def ti39 : TI := ⟨.func #[3, 25, 25] #[25] false, 1, 8, .nilFunc⟩
def ti40 : TI := ⟨.func #[25, 37, 37] #[25] false, 1, 8, .nilFunc⟩
def ti41 : TI := ⟨.func #[25, 25, 37, 37] #[4] false, 1, 8, .nilFunc⟩
def ti42 : TI := ⟨.func #[25] #[37] false, 1, 8, .nilFunc⟩
def ti43 : TI := ⟨.func #[25] #[4] false, 1, 8, .nilFunc⟩
def ti44 : TI := ⟨.func #[82] #[] false, 1, 8, .nilFunc⟩
def ti45 : TI := ⟨.func #[82] #[] false, 1, 8, .nilFunc⟩
def ti46 : TI := ⟨.func #[25] #[45] false, 1, 8, .nilFunc⟩
def ti47 : TI := ⟨.slice 3, 1, 24, (.slice none 0 0)⟩
def ti49 : TI := ⟨.func #[25] #[47, 4] false, 1, 8, .nilFunc⟩
def ti51 : TI := ⟨.func #[25] #[25, 4] false, 1, 8, .nilFunc⟩
def ti52 : TI := ⟨.func #[47, 47] #[4] false, 1, 8, .nilFunc⟩
def ti53 : TI := ⟨.slice 47, 1, 24, (.slice none 0 0)⟩
def ti54 : TI := ⟨.func #[45, 3] #[53] false, 1, 8, .nilFunc⟩
def ti55 : TI := ⟨.func #[25, 3] #[53] false, 1, 8, .nilFunc⟩
def ti56 : TI := ⟨.func #[53, 53] #[4] false, 1, 8, .nilFunc⟩
def ti57 : TI := ⟨.func #[25, 3] #[4] false, 1, 8, .nilFunc⟩
def ti58 : TI := ⟨.slice 37, 1, 24, (.slice none 0 0)⟩
def ti59 : TI := ⟨.func #[25] #[58] false, 1, 8, .nilFunc⟩
def ti60 : TI := ⟨.func #[58, 58] #[4] false, 1, 8, .nilFunc⟩
def ti61 : TI := ⟨.func #[] #[4] false, 1, 8, .nilFunc⟩
def ti62 : TI := ⟨.func #[63] #[3] false, 1, 8, .nilFunc⟩
def ti63 : TI := ⟨.int .i64, 1, 8, (.int .i64 0)⟩
def ti64 : TI := ⟨.func #[25] #[63] false, 1, 8, .nilFunc⟩
def ti65 : TI := ⟨.func #[25, 25] #[4] false, 1, 8, .nilFunc⟩
def z66 : List Value := [(.int .i64 0), (.int .i64 0)]
def ti66 : TI := ⟨.struct #[{ name := "A", type := 3, offset := 0, embedded := false, tag := "", pkgPath := "", byteOffset := 0 }, { name := "B", type := 3, offset := 1, embedded := false, tag := "", pkgPath := "", byteOffset := 8 }], 2, 16, .agg z66.toArray⟩
def z67 : List Value := [(.int .i64 0), (.int .i64 0)]
def ti67 : TI := ⟨.struct #[{ name := "A", type := 3, offset := 0, embedded := false, tag := "", pkgPath := "", byteOffset := 0 }, { name := "B", type := 3, offset := 1, embedded := false, tag := "", pkgPath := "", byteOffset := 8 }], 2, 16, .agg z67.toArray⟩
def ti69 : TI := ⟨.func #[3, 29] #[25, 63] false, 1, 8, .nilFunc⟩
def ti70 : TI := ⟨.func #[25, 47] #[4] false, 1, 8, .nilFunc⟩
def ti71 : TI := ⟨.func #[3, 37] #[25] false, 1, 8, .nilFunc⟩
def ti72 : TI := ⟨.func #[] #[37] false, 1, 8, .nilFunc⟩
def ti73 : TI := ⟨.func #[25, 25, 25] #[4] false, 1, 8, .nilFunc⟩
def ti74 : TI := ⟨.func #[67] #[4] false, 1, 8, .nilFunc⟩
def ti75 : TI := ⟨.func #[22] #[3] false, 1, 8, .nilFunc⟩
def ti76 : TI := ⟨.func #[25, 25, 77] #[25] false, 1, 8, .nilFunc⟩
def ti77 : TI := ⟨.func #[22, 22] #[22] false, 1, 8, .nilFunc⟩
def ti79 : TI := ⟨.func #[25, 25] #[25, 25] false, 1, 8, .nilFunc⟩
def ti80 : TI := ⟨.func #[3] #[22] false, 1, 8, .nilFunc⟩
def ti81 : TI := ⟨.func #[3, 37, 37] #[25] false, 1, 8, .nilFunc⟩
def ti82 : TI := ⟨.func #[47] #[4] false, 1, 8, .nilFunc⟩
def ti83 : TI := ⟨.pointer 96, 1, 8, (.pointer none)⟩
def ti84 : TI := ⟨.func #[25] #[83] false, 1, 8, .nilFunc⟩
def ti85 : TI := ⟨.func #[82] #[4] false, 1, 8, .nilFunc⟩
def ti86 : TI := ⟨.func #[25, 47, 3, 87] #[] false, 1, 8, .nilFunc⟩
def ti87 : TI := ⟨.pointer 53, 1, 8, (.pointer none)⟩
def z88 : List Value := List.replicate 64 (.int .i64 0)
def ti88 : TI := ⟨.array 64 3, 64, 512, .agg z88.toArray⟩
def ti89 : TI := ⟨.func #[25, 3] #[88] false, 1, 8, .nilFunc⟩
def ti90 : TI := ⟨.slice 25, 1, 24, (.slice none 0 0)⟩
def ti91 : TI := ⟨.func #[25, 90, 3, 3] #[47] false, 1, 8, .nilFunc⟩
def z92 : List Value := List.replicate 64 (.int .u8 0)
def ti92 : TI := ⟨.array 64 5, 64, 64, .agg z92.toArray⟩
def ti93 : TI := ⟨.int .u64, 1, 8, (.int .u64 0)⟩
def ti94 : TI := ⟨.func #[37, 3] #[4] false, 1, 8, .nilFunc⟩
def z95 : List Value := List.replicate 64 (.int .u64 0) ++ [(.int .i64 0)] ++ [(.slice none 0 0)] ++ [(.int .u64 0)]
def ti95 : TI := ⟨.struct #[{ name := "ahead", type := 23, offset := 0, embedded := false, tag := "", pkgPath := "weir/rel", byteOffset := 0 }, { name := "n", type := 3, offset := 64, embedded := false, tag := "", pkgPath := "weir/rel", byteOffset := 512 }, { name := "l", type := 47, offset := 65, embedded := false, tag := "", pkgPath := "weir/rel", byteOffset := 520 }, { name := "done", type := 22, offset := 66, embedded := false, tag := "", pkgPath := "weir/rel", byteOffset := 544 }], 67, 552, .agg z95.toArray⟩
def z96 : List Value := List.replicate 64 (.int .u64 0) ++ [(.int .i64 0)] ++ [(.slice none 0 0)] ++ [(.int .u64 0)]
def ti96 : TI := ⟨.struct #[{ name := "ahead", type := 23, offset := 0, embedded := false, tag := "", pkgPath := "weir/rel", byteOffset := 0 }, { name := "n", type := 3, offset := 64, embedded := false, tag := "", pkgPath := "weir/rel", byteOffset := 512 }, { name := "l", type := 47, offset := 65, embedded := false, tag := "", pkgPath := "weir/rel", byteOffset := 520 }, { name := "done", type := 22, offset := 66, embedded := false, tag := "", pkgPath := "weir/rel", byteOffset := 544 }], 67, 552, .agg z96.toArray⟩
def ti97 : TI := ⟨.func #[3] #[4] false, 1, 8, .nilFunc⟩
def ti98 : TI := ⟨.func #[25, 47, 3] #[4] false, 1, 8, .nilFunc⟩
def ti99 : TI := ⟨.func #[] #[9] false, 1, 8, .nilFunc⟩
def ti105 : TI := ⟨.func #[] #[3] false, 1, 8, .nilFunc⟩
def ti106 : TI := ⟨.int .u32, 1, 4, (.int .u32 0)⟩
def ti109 : TI := ⟨.func #[115, 115] #[4] false, 1, 8, .nilFunc⟩
def ti110 : TI := ⟨.pointer 5, 1, 8, (.pointer none)⟩
def tab : Tab := [(1, ti1), (2, ti2), (3, ti3), (4, ti4), (5, ti5), (9, ti9), (12, ti12), (13, ti13), (19, ti19), (21, ti21), (22, ti22), (23, ti23), (24, ti24), (25, ti25), (26, ti26), (27, ti27), (28, ti28), (29, ti29), (30, ti30), (31, ti31), (32, ti32), (33, ti33), (34, ti34), (35, ti35), (36, ti36), (37, ti37), (38, ti38), (39, ti39), (40, ti40), (41, ti41), (42, ti42), (43, ti43), (44, ti44), (45, ti45), (46, ti46), (47, ti47), (49, ti49), (51, ti51), (52, ti52), (53, ti53), (54, ti54), (55, ti55), (56, ti56), (57, ti57), (58, ti58), (59, ti59), (60, ti60), (61, ti61), (62, ti62), (63, ti63), (64, ti64), (65, ti65), (66, ti66), (67, ti67), (69, ti69), (70, ti70), (71, ti71), (72, ti72), (73, ti73), (74, ti74), (75, ti75), (76, ti76), (77, ti77), (79, ti79), (80, ti80), (81, ti81), (82, ti82), (83, ti83), (84, ti84), (85, ti85), (86, ti86), (87, ti87), (88, ti88), (89, ti89), (90, ti90), (91, ti91), (92, ti92), (93, ti93), (94, ti94), (95, ti95), (96, ti96), (97, ti97), (98, ti98), (99, ti99), (105, ti105), (106, ti106), (109, ti109), (110, ti110)]
set_option maxRecDepth 100000
theorem tab_ok0 : tabOK Tryd.prog [] := tabOK_nil _
theorem tab_a110 : Tryd.prog.underlying 110 = some ti110.d := by kernel_rfl
theorem tab_b110 : (Tryd.prog.info? 110).map (fun x => (x.zero, x.size, x.bytes)) = some (some ti110.zero, ti110.size, ti110.bytes) := by kernel_rfl
theorem tab_a109 : Tryd.prog.underlying 109 = some ti109.d := by kernel_rfl
theorem tab_b109 : (Tryd.prog.info? 109).map (fun x => (x.zero, x.size, x.bytes)) = some (some ti109.zero, ti109.size, ti109.bytes) := by kernel_rfl
theorem tab_a106 : Tryd.prog.underlying 106 = some ti106.d := by kernel_rfl
theorem tab_b106 : (Tryd.prog.info? 106).map (fun x => (x.zero, x.size, x.bytes)) = some (some ti106.zero, ti106.size, ti106.bytes) := by kernel_rfl
theorem tab_a105 : Tryd.prog.underlying 105 = some ti105.d := by kernel_rfl
theorem tab_b105 : (Tryd.prog.info? 105).map (fun x => (x.zero, x.size, x.bytes)) = some (some ti105.zero, ti105.size, ti105.bytes) := by kernel_rfl
theorem tab_a99 : Tryd.prog.underlying 99 = some ti99.d := by kernel_rfl
theorem tab_b99 : (Tryd.prog.info? 99).map (fun x => (x.zero, x.size, x.bytes)) = some (some ti99.zero, ti99.size, ti99.bytes) := by kernel_rfl
theorem tab_a98 : Tryd.prog.underlying 98 = some ti98.d := by kernel_rfl
theorem tab_b98 : (Tryd.prog.info? 98).map (fun x => (x.zero, x.size, x.bytes)) = some (some ti98.zero, ti98.size, ti98.bytes) := by kernel_rfl
theorem tab_a97 : Tryd.prog.underlying 97 = some ti97.d := by kernel_rfl
theorem tab_b97 : (Tryd.prog.info? 97).map (fun x => (x.zero, x.size, x.bytes)) = some (some ti97.zero, ti97.size, ti97.bytes) := by kernel_rfl
theorem tab_a96 : Tryd.prog.underlying 96 = some ti96.d := by kernel_rfl
theorem tab_b96 : (Tryd.prog.info? 96).map (fun x => (x.zero, x.size, x.bytes)) = some (some ti96.zero, ti96.size, ti96.bytes) := by kernel_rfl
theorem tab_a95 : Tryd.prog.underlying 95 = some ti95.d := by kernel_rfl
theorem tab_b95 : (Tryd.prog.info? 95).map (fun x => (x.zero, x.size, x.bytes)) = some (some ti95.zero, ti95.size, ti95.bytes) := by kernel_rfl
theorem tab_a94 : Tryd.prog.underlying 94 = some ti94.d := by kernel_rfl
theorem tab_b94 : (Tryd.prog.info? 94).map (fun x => (x.zero, x.size, x.bytes)) = some (some ti94.zero, ti94.size, ti94.bytes) := by kernel_rfl
theorem tab_a93 : Tryd.prog.underlying 93 = some ti93.d := by kernel_rfl
theorem tab_b93 : (Tryd.prog.info? 93).map (fun x => (x.zero, x.size, x.bytes)) = some (some ti93.zero, ti93.size, ti93.bytes) := by kernel_rfl
theorem tab_a92 : Tryd.prog.underlying 92 = some ti92.d := by kernel_rfl
theorem tab_b92 : (Tryd.prog.info? 92).map (fun x => (x.zero, x.size, x.bytes)) = some (some ti92.zero, ti92.size, ti92.bytes) := by kernel_rfl
theorem tab_a91 : Tryd.prog.underlying 91 = some ti91.d := by kernel_rfl
theorem tab_b91 : (Tryd.prog.info? 91).map (fun x => (x.zero, x.size, x.bytes)) = some (some ti91.zero, ti91.size, ti91.bytes) := by kernel_rfl
theorem tab_a90 : Tryd.prog.underlying 90 = some ti90.d := by kernel_rfl
theorem tab_b90 : (Tryd.prog.info? 90).map (fun x => (x.zero, x.size, x.bytes)) = some (some ti90.zero, ti90.size, ti90.bytes) := by kernel_rfl
theorem tab_a89 : Tryd.prog.underlying 89 = some ti89.d := by kernel_rfl
theorem tab_b89 : (Tryd.prog.info? 89).map (fun x => (x.zero, x.size, x.bytes)) = some (some ti89.zero, ti89.size, ti89.bytes) := by kernel_rfl
theorem tab_a88 : Tryd.prog.underlying 88 = some ti88.d := by kernel_rfl
theorem tab_b88 : (Tryd.prog.info? 88).map (fun x => (x.zero, x.size, x.bytes)) = some (some ti88.zero, ti88.size, ti88.bytes) := by kernel_rfl
theorem tab_a87 : Tryd.prog.underlying 87 = some ti87.d := by kernel_rfl
theorem tab_b87 : (Tryd.prog.info? 87).map (fun x => (x.zero, x.size, x.bytes)) = some (some ti87.zero, ti87.size, ti87.bytes) := by kernel_rfl
theorem tab_a86 : Tryd.prog.underlying 86 = some ti86.d := by kernel_rfl
theorem tab_b86 : (Tryd.prog.info? 86).map (fun x => (x.zero, x.size, x.bytes)) = some (some ti86.zero, ti86.size, ti86.bytes) := by kernel_rfl
theorem tab_a85 : Tryd.prog.underlying 85 = some ti85.d := by kernel_rfl
theorem tab_b85 : (Tryd.prog.info? 85).map (fun x => (x.zero, x.size, x.bytes)) = some (some ti85.zero, ti85.size, ti85.bytes) := by kernel_rfl
theorem tab_a84 : Tryd.prog.underlying 84 = some ti84.d := by kernel_rfl
theorem tab_b84 : (Tryd.prog.info? 84).map (fun x => (x.zero, x.size, x.bytes)) = some (some ti84.zero, ti84.size, ti84.bytes) := by kernel_rfl
theorem tab_a83 : Tryd.prog.underlying 83 = some ti83.d := by kernel_rfl
theorem tab_b83 : (Tryd.prog.info? 83).map (fun x => (x.zero, x.size, x.bytes)) = some (some ti83.zero, ti83.size, ti83.bytes) := by kernel_rfl
theorem tab_a82 : Tryd.prog.underlying 82 = some ti82.d := by kernel_rfl
theorem tab_b82 : (Tryd.prog.info? 82).map (fun x => (x.zero, x.size, x.bytes)) = some (some ti82.zero, ti82.size, ti82.bytes) := by kernel_rfl
theorem tab_a81 : Tryd.prog.underlying 81 = some ti81.d := by kernel_rfl
theorem tab_b81 : (Tryd.prog.info? 81).map (fun x => (x.zero, x.size, x.bytes)) = some (some ti81.zero, ti81.size, ti81.bytes) := by kernel_rfl
theorem tab_a80 : Tryd.prog.underlying 80 = some ti80.d := by kernel_rfl
theorem tab_b80 : (Tryd.prog.info? 80).map (fun x => (x.zero, x.size, x.bytes)) = some (some ti80.zero, ti80.size, ti80.bytes) := by kernel_rfl
theorem tab_a79 : Tryd.prog.underlying 79 = some ti79.d := by kernel_rfl
theorem tab_b79 : (Tryd.prog.info? 79).map (fun x => (x.zero, x.size, x.bytes)) = some (some ti79.zero, ti79.size, ti79.bytes) := by kernel_rfl
theorem tab_a77 : Tryd.prog.underlying 77 = some ti77.d := by kernel_rfl
theorem tab_b77 : (Tryd.prog.info? 77).map (fun x => (x.zero, x.size, x.bytes)) = some (some ti77.zero, ti77.size, ti77.bytes) := by kernel_rfl
theorem tab_a76 : Tryd.prog.underlying 76 = some ti76.d := by kernel_rfl
theorem tab_b76 : (Tryd.prog.info? 76).map (fun x => (x.zero, x.size, x.bytes)) = some (some ti76.zero, ti76.size, ti76.bytes) := by kernel_rfl
theorem tab_a75 : Tryd.prog.underlying 75 = some ti75.d := by kernel_rfl
theorem tab_b75 : (Tryd.prog.info? 75).map (fun x => (x.zero, x.size, x.bytes)) = some (some ti75.zero, ti75.size, ti75.bytes) := by kernel_rfl
theorem tab_a74 : Tryd.prog.underlying 74 = some ti74.d := by kernel_rfl
theorem tab_b74 : (Tryd.prog.info? 74).map (fun x => (x.zero, x.size, x.bytes)) = some (some ti74.zero, ti74.size, ti74.bytes) := by kernel_rfl
theorem tab_a73 : Tryd.prog.underlying 73 = some ti73.d := by kernel_rfl
theorem tab_b73 : (Tryd.prog.info? 73).map (fun x => (x.zero, x.size, x.bytes)) = some (some ti73.zero, ti73.size, ti73.bytes) := by kernel_rfl
theorem tab_a72 : Tryd.prog.underlying 72 = some ti72.d := by kernel_rfl
theorem tab_b72 : (Tryd.prog.info? 72).map (fun x => (x.zero, x.size, x.bytes)) = some (some ti72.zero, ti72.size, ti72.bytes) := by kernel_rfl
theorem tab_a71 : Tryd.prog.underlying 71 = some ti71.d := by kernel_rfl
theorem tab_b71 : (Tryd.prog.info? 71).map (fun x => (x.zero, x.size, x.bytes)) = some (some ti71.zero, ti71.size, ti71.bytes) := by kernel_rfl
theorem tab_a70 : Tryd.prog.underlying 70 = some ti70.d := by kernel_rfl
theorem tab_b70 : (Tryd.prog.info? 70).map (fun x => (x.zero, x.size, x.bytes)) = some (some ti70.zero, ti70.size, ti70.bytes) := by kernel_rfl
theorem tab_a69 : Tryd.prog.underlying 69 = some ti69.d := by kernel_rfl
theorem tab_b69 : (Tryd.prog.info? 69).map (fun x => (x.zero, x.size, x.bytes)) = some (some ti69.zero, ti69.size, ti69.bytes) := by kernel_rfl
theorem tab_a67 : Tryd.prog.underlying 67 = some ti67.d := by kernel_rfl
theorem tab_b67 : (Tryd.prog.info? 67).map (fun x => (x.zero, x.size, x.bytes)) = some (some ti67.zero, ti67.size, ti67.bytes) := by kernel_rfl
theorem tab_a66 : Tryd.prog.underlying 66 = some ti66.d := by kernel_rfl
theorem tab_b66 : (Tryd.prog.info? 66).map (fun x => (x.zero, x.size, x.bytes)) = some (some ti66.zero, ti66.size, ti66.bytes) := by kernel_rfl
theorem tab_a65 : Tryd.prog.underlying 65 = some ti65.d := by kernel_rfl
theorem tab_b65 : (Tryd.prog.info? 65).map (fun x => (x.zero, x.size, x.bytes)) = some (some ti65.zero, ti65.size, ti65.bytes) := by kernel_rfl
theorem tab_a64 : Tryd.prog.underlying 64 = some ti64.d := by kernel_rfl
theorem tab_b64 : (Tryd.prog.info? 64).map (fun x => (x.zero, x.size, x.bytes)) = some (some ti64.zero, ti64.size, ti64.bytes) := by kernel_rfl
theorem tab_a63 : Tryd.prog.underlying 63 = some ti63.d := by kernel_rfl
theorem tab_b63 : (Tryd.prog.info? 63).map (fun x => (x.zero, x.size, x.bytes)) = some (some ti63.zero, ti63.size, ti63.bytes) := by kernel_rfl
theorem tab_a62 : Tryd.prog.underlying 62 = some ti62.d := by kernel_rfl
theorem tab_b62 : (Tryd.prog.info? 62).map (fun x => (x.zero, x.size, x.bytes)) = some (some ti62.zero, ti62.size, ti62.bytes) := by kernel_rfl
theorem tab_a61 : Tryd.prog.underlying 61 = some ti61.d := by kernel_rfl
theorem tab_b61 : (Tryd.prog.info? 61).map (fun x => (x.zero, x.size, x.bytes)) = some (some ti61.zero, ti61.size, ti61.bytes) := by kernel_rfl
theorem tab_a60 : Tryd.prog.underlying 60 = some ti60.d := by kernel_rfl
theorem tab_b60 : (Tryd.prog.info? 60).map (fun x => (x.zero, x.size, x.bytes)) = some (some ti60.zero, ti60.size, ti60.bytes) := by kernel_rfl
theorem tab_a59 : Tryd.prog.underlying 59 = some ti59.d := by kernel_rfl
theorem tab_b59 : (Tryd.prog.info? 59).map (fun x => (x.zero, x.size, x.bytes)) = some (some ti59.zero, ti59.size, ti59.bytes) := by kernel_rfl
theorem tab_a58 : Tryd.prog.underlying 58 = some ti58.d := by kernel_rfl
theorem tab_b58 : (Tryd.prog.info? 58).map (fun x => (x.zero, x.size, x.bytes)) = some (some ti58.zero, ti58.size, ti58.bytes) := by kernel_rfl
theorem tab_a57 : Tryd.prog.underlying 57 = some ti57.d := by kernel_rfl
theorem tab_b57 : (Tryd.prog.info? 57).map (fun x => (x.zero, x.size, x.bytes)) = some (some ti57.zero, ti57.size, ti57.bytes) := by kernel_rfl
theorem tab_a56 : Tryd.prog.underlying 56 = some ti56.d := by kernel_rfl
theorem tab_b56 : (Tryd.prog.info? 56).map (fun x => (x.zero, x.size, x.bytes)) = some (some ti56.zero, ti56.size, ti56.bytes) := by kernel_rfl
theorem tab_a55 : Tryd.prog.underlying 55 = some ti55.d := by kernel_rfl
theorem tab_b55 : (Tryd.prog.info? 55).map (fun x => (x.zero, x.size, x.bytes)) = some (some ti55.zero, ti55.size, ti55.bytes) := by kernel_rfl
theorem tab_a54 : Tryd.prog.underlying 54 = some ti54.d := by kernel_rfl
theorem tab_b54 : (Tryd.prog.info? 54).map (fun x => (x.zero, x.size, x.bytes)) = some (some ti54.zero, ti54.size, ti54.bytes) := by kernel_rfl
theorem tab_a53 : Tryd.prog.underlying 53 = some ti53.d := by kernel_rfl
theorem tab_b53 : (Tryd.prog.info? 53).map (fun x => (x.zero, x.size, x.bytes)) = some (some ti53.zero, ti53.size, ti53.bytes) := by kernel_rfl
theorem tab_a52 : Tryd.prog.underlying 52 = some ti52.d := by kernel_rfl
theorem tab_b52 : (Tryd.prog.info? 52).map (fun x => (x.zero, x.size, x.bytes)) = some (some ti52.zero, ti52.size, ti52.bytes) := by kernel_rfl
theorem tab_a51 : Tryd.prog.underlying 51 = some ti51.d := by kernel_rfl
theorem tab_b51 : (Tryd.prog.info? 51).map (fun x => (x.zero, x.size, x.bytes)) = some (some ti51.zero, ti51.size, ti51.bytes) := by kernel_rfl
theorem tab_a49 : Tryd.prog.underlying 49 = some ti49.d := by kernel_rfl
theorem tab_b49 : (Tryd.prog.info? 49).map (fun x => (x.zero, x.size, x.bytes)) = some (some ti49.zero, ti49.size, ti49.bytes) := by kernel_rfl
theorem tab_a47 : Tryd.prog.underlying 47 = some ti47.d := by kernel_rfl
theorem tab_b47 : (Tryd.prog.info? 47).map (fun x => (x.zero, x.size, x.bytes)) = some (some ti47.zero, ti47.size, ti47.bytes) := by kernel_rfl
theorem tab_a46 : Tryd.prog.underlying 46 = some ti46.d := by kernel_rfl
theorem tab_b46 : (Tryd.prog.info? 46).map (fun x => (x.zero, x.size, x.bytes)) = some (some ti46.zero, ti46.size, ti46.bytes) := by kernel_rfl
theorem tab_a45 : Tryd.prog.underlying 45 = some ti45.d := by kernel_rfl
theorem tab_b45 : (Tryd.prog.info? 45).map (fun x => (x.zero, x.size, x.bytes)) = some (some ti45.zero, ti45.size, ti45.bytes) := by kernel_rfl
theorem tab_a44 : Tryd.prog.underlying 44 = some ti44.d := by kernel_rfl
theorem tab_b44 : (Tryd.prog.info? 44).map (fun x => (x.zero, x.size, x.bytes)) = some (some ti44.zero, ti44.size, ti44.bytes) := by kernel_rfl
theorem tab_a43 : Tryd.prog.underlying 43 = some ti43.d := by kernel_rfl
theorem tab_b43 : (Tryd.prog.info? 43).map (fun x => (x.zero, x.size, x.bytes)) = some (some ti43.zero, ti43.size, ti43.bytes) := by kernel_rfl
theorem tab_a42 : Tryd.prog.underlying 42 = some ti42.d := by kernel_rfl
theorem tab_b42 : (Tryd.prog.info? 42).map (fun x => (x.zero, x.size, x.bytes)) = some (some ti42.zero, ti42.size, ti42.bytes) := by kernel_rfl
theorem tab_a41 : Tryd.prog.underlying 41 = some ti41.d := by kernel_rfl
theorem tab_b41 : (Tryd.prog.info? 41).map (fun x => (x.zero, x.size, x.bytes)) = some (some ti41.zero, ti41.size, ti41.bytes) := by kernel_rfl
theorem tab_a40 : Tryd.prog.underlying 40 = some ti40.d := by kernel_rfl
theorem tab_b40 : (Tryd.prog.info? 40).map (fun x => (x.zero, x.size, x.bytes)) = some (some ti40.zero, ti40.size, ti40.bytes) := by kernel_rfl
theorem tab_a39 : Tryd.prog.underlying 39 = some ti39.d := by kernel_rfl
theorem tab_b39 : (Tryd.prog.info? 39).map (fun x => (x.zero, x.size, x.bytes)) = some (some ti39.zero, ti39.size, ti39.bytes) := by kernel_rfl
theorem tab_a38 : Tryd.prog.underlying 38 = some ti38.d := by kernel_rfl
theorem tab_b38 : (Tryd.prog.info? 38).map (fun x => (x.zero, x.size, x.bytes)) = some (some ti38.zero, ti38.size, ti38.bytes) := by kernel_rfl
theorem tab_a37 : Tryd.prog.underlying 37 = some ti37.d := by kernel_rfl
theorem tab_b37 : (Tryd.prog.info? 37).map (fun x => (x.zero, x.size, x.bytes)) = some (some ti37.zero, ti37.size, ti37.bytes) := by kernel_rfl
theorem tab_a36 : Tryd.prog.underlying 36 = some ti36.d := by kernel_rfl
theorem tab_b36 : (Tryd.prog.info? 36).map (fun x => (x.zero, x.size, x.bytes)) = some (some ti36.zero, ti36.size, ti36.bytes) := by kernel_rfl
theorem tab_a35 : Tryd.prog.underlying 35 = some ti35.d := by kernel_rfl
theorem tab_b35 : (Tryd.prog.info? 35).map (fun x => (x.zero, x.size, x.bytes)) = some (some ti35.zero, ti35.size, ti35.bytes) := by kernel_rfl
theorem tab_a34 : Tryd.prog.underlying 34 = some ti34.d := by kernel_rfl
theorem tab_b34 : (Tryd.prog.info? 34).map (fun x => (x.zero, x.size, x.bytes)) = some (some ti34.zero, ti34.size, ti34.bytes) := by kernel_rfl
theorem tab_a33 : Tryd.prog.underlying 33 = some ti33.d := by kernel_rfl
theorem tab_b33 : (Tryd.prog.info? 33).map (fun x => (x.zero, x.size, x.bytes)) = some (some ti33.zero, ti33.size, ti33.bytes) := by kernel_rfl
theorem tab_a32 : Tryd.prog.underlying 32 = some ti32.d := by kernel_rfl
theorem tab_b32 : (Tryd.prog.info? 32).map (fun x => (x.zero, x.size, x.bytes)) = some (some ti32.zero, ti32.size, ti32.bytes) := by kernel_rfl
theorem tab_a31 : Tryd.prog.underlying 31 = some ti31.d := by kernel_rfl
theorem tab_b31 : (Tryd.prog.info? 31).map (fun x => (x.zero, x.size, x.bytes)) = some (some ti31.zero, ti31.size, ti31.bytes) := by kernel_rfl
theorem tab_a30 : Tryd.prog.underlying 30 = some ti30.d := by kernel_rfl
theorem tab_b30 : (Tryd.prog.info? 30).map (fun x => (x.zero, x.size, x.bytes)) = some (some ti30.zero, ti30.size, ti30.bytes) := by kernel_rfl
theorem tab_a29 : Tryd.prog.underlying 29 = some ti29.d := by kernel_rfl
theorem tab_b29 : (Tryd.prog.info? 29).map (fun x => (x.zero, x.size, x.bytes)) = some (some ti29.zero, ti29.size, ti29.bytes) := by kernel_rfl
theorem tab_a28 : Tryd.prog.underlying 28 = some ti28.d := by kernel_rfl
theorem tab_b28 : (Tryd.prog.info? 28).map (fun x => (x.zero, x.size, x.bytes)) = some (some ti28.zero, ti28.size, ti28.bytes) := by kernel_rfl
theorem tab_a27 : Tryd.prog.underlying 27 = some ti27.d := by kernel_rfl
theorem tab_b27 : (Tryd.prog.info? 27).map (fun x => (x.zero, x.size, x.bytes)) = some (some ti27.zero, ti27.size, ti27.bytes) := by kernel_rfl
theorem tab_a26 : Tryd.prog.underlying 26 = some ti26.d := by kernel_rfl
theorem tab_b26 : (Tryd.prog.info? 26).map (fun x => (x.zero, x.size, x.bytes)) = some (some ti26.zero, ti26.size, ti26.bytes) := by kernel_rfl
theorem tab_a25 : Tryd.prog.underlying 25 = some ti25.d := by kernel_rfl
theorem tab_b25 : (Tryd.prog.info? 25).map (fun x => (x.zero, x.size, x.bytes)) = some (some ti25.zero, ti25.size, ti25.bytes) := by kernel_rfl
theorem tab_a24 : Tryd.prog.underlying 24 = some ti24.d := by kernel_rfl
theorem tab_b24 : (Tryd.prog.info? 24).map (fun x => (x.zero, x.size, x.bytes)) = some (some ti24.zero, ti24.size, ti24.bytes) := by kernel_rfl
theorem tab_a23 : Tryd.prog.underlying 23 = some ti23.d := by kernel_rfl
theorem tab_b23 : (Tryd.prog.info? 23).map (fun x => (x.zero, x.size, x.bytes)) = some (some ti23.zero, ti23.size, ti23.bytes) := by kernel_rfl
theorem tab_a22 : Tryd.prog.underlying 22 = some ti22.d := by kernel_rfl
theorem tab_b22 : (Tryd.prog.info? 22).map (fun x => (x.zero, x.size, x.bytes)) = some (some ti22.zero, ti22.size, ti22.bytes) := by kernel_rfl
theorem tab_a21 : Tryd.prog.underlying 21 = some ti21.d := by kernel_rfl
theorem tab_b21 : (Tryd.prog.info? 21).map (fun x => (x.zero, x.size, x.bytes)) = some (some ti21.zero, ti21.size, ti21.bytes) := by kernel_rfl
theorem tab_a19 : Tryd.prog.underlying 19 = some ti19.d := by kernel_rfl
theorem tab_b19 : (Tryd.prog.info? 19).map (fun x => (x.zero, x.size, x.bytes)) = some (some ti19.zero, ti19.size, ti19.bytes) := by kernel_rfl
theorem tab_a13 : Tryd.prog.underlying 13 = some ti13.d := by kernel_rfl
theorem tab_b13 : (Tryd.prog.info? 13).map (fun x => (x.zero, x.size, x.bytes)) = some (some ti13.zero, ti13.size, ti13.bytes) := by kernel_rfl
theorem tab_a12 : Tryd.prog.underlying 12 = some ti12.d := by kernel_rfl
theorem tab_b12 : (Tryd.prog.info? 12).map (fun x => (x.zero, x.size, x.bytes)) = some (some ti12.zero, ti12.size, ti12.bytes) := by kernel_rfl
theorem tab_a9 : Tryd.prog.underlying 9 = some ti9.d := by kernel_rfl
theorem tab_b9 : (Tryd.prog.info? 9).map (fun x => (x.zero, x.size, x.bytes)) = some (some ti9.zero, ti9.size, ti9.bytes) := by kernel_rfl
theorem tab_a5 : Tryd.prog.underlying 5 = some ti5.d := by kernel_rfl
theorem tab_b5 : (Tryd.prog.info? 5).map (fun x => (x.zero, x.size, x.bytes)) = some (some ti5.zero, ti5.size, ti5.bytes) := by kernel_rfl
theorem tab_a4 : Tryd.prog.underlying 4 = some ti4.d := by kernel_rfl
theorem tab_b4 : (Tryd.prog.info? 4).map (fun x => (x.zero, x.size, x.bytes)) = some (some ti4.zero, ti4.size, ti4.bytes) := by kernel_rfl
theorem tab_a3 : Tryd.prog.underlying 3 = some ti3.d := by kernel_rfl
theorem tab_b3 : (Tryd.prog.info? 3).map (fun x => (x.zero, x.size, x.bytes)) = some (some ti3.zero, ti3.size, ti3.bytes) := by kernel_rfl
theorem tab_a2 : Tryd.prog.underlying 2 = some ti2.d := by kernel_rfl
theorem tab_b2 : (Tryd.prog.info? 2).map (fun x => (x.zero, x.size, x.bytes)) = some (some ti2.zero, ti2.size, ti2.bytes) := by kernel_rfl
theorem tab_a1 : Tryd.prog.underlying 1 = some ti1.d := by kernel_rfl
theorem tab_b1 : (Tryd.prog.info? 1).map (fun x => (x.zero, x.size, x.bytes)) = some (some ti1.zero, ti1.size, ti1.bytes) := by kernel_rfl
theorem tab_ok : tabOK Tryd.prog tab := tabOK_cons tab_a1 tab_b1 (tabOK_cons tab_a2 tab_b2 (tabOK_cons tab_a3 tab_b3 (tabOK_cons tab_a4 tab_b4 (tabOK_cons tab_a5 tab_b5 (tabOK_cons tab_a9 tab_b9 (tabOK_cons tab_a12 tab_b12 (tabOK_cons tab_a13 tab_b13 (tabOK_cons tab_a19 tab_b19 (tabOK_cons tab_a21 tab_b21 (tabOK_cons tab_a22 tab_b22 (tabOK_cons tab_a23 tab_b23 (tabOK_cons tab_a24 tab_b24 (tabOK_cons tab_a25 tab_b25 (tabOK_cons tab_a26 tab_b26 (tabOK_cons tab_a27 tab_b27 (tabOK_cons tab_a28 tab_b28 (tabOK_cons tab_a29 tab_b29 (tabOK_cons tab_a30 tab_b30 (tabOK_cons tab_a31 tab_b31 (tabOK_cons tab_a32 tab_b32 (tabOK_cons tab_a33 tab_b33 (tabOK_cons tab_a34 tab_b34 (tabOK_cons tab_a35 tab_b35 (tabOK_cons tab_a36 tab_b36 (tabOK_cons tab_a37 tab_b37 (tabOK_cons tab_a38 tab_b38 (tabOK_cons tab_a39 tab_b39 (tabOK_cons tab_a40 tab_b40 (tabOK_cons tab_a41 tab_b41 (tabOK_cons tab_a42 tab_b42 (tabOK_cons tab_a43 tab_b43 (tabOK_cons tab_a44 tab_b44 (tabOK_cons tab_a45 tab_b45 (tabOK_cons tab_a46 tab_b46 (tabOK_cons tab_a47 tab_b47 (tabOK_cons tab_a49 tab_b49 (tabOK_cons tab_a51 tab_b51 (tabOK_cons tab_a52 tab_b52 (tabOK_cons tab_a53 tab_b53 (tabOK_cons tab_a54 tab_b54 (tabOK_cons tab_a55 tab_b55 (tabOK_cons tab_a56 tab_b56 (tabOK_cons tab_a57 tab_b57 (tabOK_cons tab_a58 tab_b58 (tabOK_cons tab_a59 tab_b59 (tabOK_cons tab_a60 tab_b60 (tabOK_cons tab_a61 tab_b61 (tabOK_cons tab_a62 tab_b62 (tabOK_cons tab_a63 tab_b63 (tabOK_cons tab_a64 tab_b64 (tabOK_cons tab_a65 tab_b65 (tabOK_cons tab_a66 tab_b66 (tabOK_cons tab_a67 tab_b67 (tabOK_cons tab_a69 tab_b69 (tabOK_cons tab_a70 tab_b70 (tabOK_cons tab_a71 tab_b71 (tabOK_cons tab_a72 tab_b72 (tabOK_cons tab_a73 tab_b73 (tabOK_cons tab_a74 tab_b74 (tabOK_cons tab_a75 tab_b75 (tabOK_cons tab_a76 tab_b76 (tabOK_cons tab_a77 tab_b77 (tabOK_cons tab_a79 tab_b79 (tabOK_cons tab_a80 tab_b80 (tabOK_cons tab_a81 tab_b81 (tabOK_cons tab_a82 tab_b82 (tabOK_cons tab_a83 tab_b83 (tabOK_cons tab_a84 tab_b84 (tabOK_cons tab_a85 tab_b85 (tabOK_cons tab_a86 tab_b86 (tabOK_cons tab_a87 tab_b87 (tabOK_cons tab_a88 tab_b88 (tabOK_cons tab_a89 tab_b89 (tabOK_cons tab_a90 tab_b90 (tabOK_cons tab_a91 tab_b91 (tabOK_cons tab_a92 tab_b92 (tabOK_cons tab_a93 tab_b93 (tabOK_cons tab_a94 tab_b94 (tabOK_cons tab_a95 tab_b95 (tabOK_cons tab_a96 tab_b96 (tabOK_cons tab_a97 tab_b97 (tabOK_cons tab_a98 tab_b98 (tabOK_cons tab_a99 tab_b99 (tabOK_cons tab_a105 tab_b105 (tabOK_cons tab_a106 tab_b106 (tabOK_cons tab_a109 tab_b109 (tabOK_cons tab_a110 tab_b110 (tabOK_nil _))))))))))))))))))))))))))))))))))))))))))))))))))))))))))))))))))))))))))))))))))))))))
end Go.Proofs.YtocpkgckllbjlaaDoor

/-
  What rel.whole, Check, right and two do. Own work.
-/
namespace Go.Proofs.YtocpkgckllbjlaaDoor
open Go.AM
set_option maxRecDepth 100000

theorem whole_val (n : Int) (h : n < 64) : IntKind.u64.wrap (shlI .u64 1 n - 1) = un (mask n) := by
  rw [un_one, shl_un, sub_un, mask, if_neg (by omega)]

theorem whole_ok (n : Int) (w : World) (h0 : 0 ≤ n) : Gives Tryd.prog 80 [.int .i64 n] w (.int .u64 (un (mask n))) := by
  refine Gives.of_run Tryd.func80 rfl (by show 1 ≤ 8; decide) ?_
  by_cases h : n ≥ 64
  · refine RunF_sound tab_ok noX_local 100 [true] _ _ rfl ?_ ?_
    · simpa using h
    · refine Run.retP tab_ok Tryd.func80 rfl trivial (fun M => ?_)
      rw [mask, if_pos h]; rfl
  · refine RunF_sound tab_ok noX_local 100 [false] _ _ rfl ?_ ?_
    · simpa using ⟨by omega, h0⟩
    · refine Run.retP tab_ok Tryd.func80 rfl trivial (fun M => ?_)
      show Value.int _ _ = _
      rw [whole_val n (by omega)]

theorem whole_enters : Enters Tryd.prog 80 := enters_mk Tryd.func80 (by decide) rfl

/-- Is a row right? -/
def good (r : Rl) (i : Nat) : Bool := !((decide ((i : Int) ≥ r.n) && (r.row i != 0#64)) || (r.row i &&& ~~~(mask r.n)) != 0#64)

open Classical in
noncomputable def checkI (r : Rl) : Int := if r.n < 0 ∨ r.n > 64 then 20 else if ∀ i, i < 64 → good r i = true then 0 else 20

open Classical in
theorem checkI_from (r : Rl) (k : Nat) (h : ∀ i, i < k → good r i = true) (h1 : ¬ r.n < 0) (h2 : ¬ r.n > 64) : checkI r = if ∀ i, k ≤ i → i < 64 → good r i = true then 0 else 20 := by
  unfold checkI
  rw [if_neg (by omega)]
  have e : (∀ i, i < 64 → good r i = true) ↔ (∀ i, k ≤ i → i < 64 → good r i = true) := by
    constructor
    · intro h' i _ hi; exact h' i hi
    · intro h' i hi
      rcases Nat.lt_or_ge i k with hik | hik
      · exact h i hik
      · exact h' i hik hi
  simp only [e]

theorem check_ok (r : Rl) (w : World) : Gives Tryd.prog 64 [encRel r] w (.int .i64 (checkI r)) := by
  refine Gives.of_run Tryd.func64 rfl (by show 1 ≤ 36; decide) ?_
  by_cases h1 : r.n < 0
  · refine RunF_sound tab_ok noX_local 100 [true, true] _ _ rfl ?_ ?_
    · simp [h1]
    · refine Run.retP tab_ok Tryd.func64 rfl trivial (fun M => ?_)
      rw [checkI, if_pos (.inl h1)]; rfl
  by_cases h2 : r.n > 64
  · refine RunF_sound tab_ok noX_local 100 [false, true] _ _ rfl ?_ ?_
    · simp; omega
    · refine Run.retP tab_ok Tryd.func64 rfl trivial (fun M => ?_)
      rw [checkI, if_pos (.inr h2)]; rfl
  refine RunF_sound tab_ok noX_local 100 [false, false] _ _ rfl ?_ ?_
  · simp; omega
  suffices H : ∀ d k, k ≤ 64 → 64 - k = d → (∀ i, i < k → good r i = true) → ∀ σ, inT σ.t [(1, .ptr 0 0), (14, .v (.agg (rowV r).toArray)), (15, .v (.int .i64 (k : Int)))] → inT σ.h [(0, .cells 25 [.vals 65 (relV r)])] → Run _ _ σ by
    exact H 64 0 (by omega) rfl (fun i hi => by omega) _ ⟨rfl, congrArg (fun l : List Value => some (AV.v (Value.agg l.toArray))) (relV_drop r), rfl, trivial⟩ ⟨rfl, trivial⟩
  intro d
  induction d with
  | zero => 
    intro k hk hd hg σ ht hh
    refine Run.to ?_ ht hh (n' := 1)
    refine RunF_sound tab_ok noX_local 100 [false] _ _ rfl ?_ ?_
    · simp; omega
    · refine Run.retP tab_ok Tryd.func64 rfl trivial (fun M => ?_)
      rw [checkI_from r k hg h1 h2, if_pos (fun i h3 h4 => by omega)]; rfl
  | succ d ih => 
    intro k hk hd hg σ ht hh
    refine Run.to ?_ ht hh (n' := 1)
    have hk' : k < 64 := by omega
    have e := intAt_rowV r k hk'
    have e2 := rowV_get r k hk'
    have h0 : 0 ≤ r.n := by omega
    have bad : good r k = false → checkI r = 20 := by
      intro hb
      rw [checkI_from r k hg h1 h2, if_neg (fun h => by have := h k (Nat.le_refl _) hk'; rw [hb] at this; cases this)]
    have nextk : good r k = true → ∀ i, i < k + 1 → good r i = true := by
      intro hb i hi
      rcases Nat.lt_or_ge i k with h | h
      · exact hg i h
      · obtain rfl : i = k := by omega
        exact hb
    by_cases c1 : (k : Int) ≥ r.n
    · by_cases c2 : r.row k = 0#64
      · have c3 : (r.row k &&& ~~~(mask r.n)) = 0#64 := by rw [c2]; simp
        refine RunF_sound tab_ok noX_local 100 [true, true, false] _ _ rfl ?_ ?_
        · simp [e, e2, c1, c2]; omega
        refine Run.callFn noX_local rfl rfl rfl rfl rfl rfl rfl whole_enters rfl (fun w' _ => whole_ok r.n w' h0) ?_
        refine RunF_sound tab_ok noX_local 100 [false] _ _ rfl ?_ ?_
        · simp [e, c3]
        exact ih (k + 1) (by omega) (by omega) (nextk (by simp [good, c2])) _ ⟨rfl, rfl, i64_eq (wrap_succ (by omega)), trivial⟩ ⟨rfl, trivial⟩
      · refine RunF_sound tab_ok noX_local 100 [true, true, true] _ _ rfl ?_ ?_
        · simp [e, e2, c1, c2]; omega
        refine Run.retP tab_ok Tryd.func64 rfl trivial (fun M => ?_)
        rw [bad (by simp [good, c1, c2])]; rfl
    · refine RunF_sound tab_ok noX_local 100 [true, false] _ _ rfl ?_ ?_
      · simp [e, e2]; omega
      refine Run.callFn noX_local rfl rfl rfl rfl rfl rfl rfl whole_enters rfl (fun w' _ => whole_ok r.n w' h0) ?_
      by_cases c3 : (r.row k &&& ~~~(mask r.n)) = 0#64
      · refine RunF_sound tab_ok noX_local 100 [false] _ _ rfl ?_ ?_
        · simp [e, c3]
        exact ih (k + 1) (by omega) (by omega) (nextk (by simp [good, c1, c3])) _ ⟨rfl, rfl, i64_eq (wrap_succ (by omega)), trivial⟩ ⟨rfl, trivial⟩
      · refine RunF_sound tab_ok noX_local 100 [true] _ _ rfl ?_ ?_
        · simp [e, c3]
        refine Run.retP tab_ok Tryd.func64 rfl trivial (fun M => ?_)
        rw [bad (by simp [good, c3])]; rfl

theorem check_enters : Enters Tryd.prog 64 := enters_mk Tryd.func64 (by decide) rfl
end Go.Proofs.YtocpkgckllbjlaaDoor

/-
  What rel.Cross and rel.On do. Own work.
-/
namespace Go.AM
namespace Rl
/-- A relation by its rows. -/
def by_ (n : Int) (f : Nat → BitVec 64) : Rl := ⟨n, Vector.ofFn fun i => f i.1⟩
theorem row_by (n : Int) (f : Nat → BitVec 64) (i : Nat) : (by_ n f).row i = if i < 64 then f i else 0#64 := by
  unfold row by_
  split
  · simp
  · rfl
theorem n_by (n : Int) (f : Nat → BitVec 64) : (by_ n f).n = n := rfl
theorem by_congr {n : Int} {f g : Nat → BitVec 64} (h : ∀ i, i < 64 → f i = g i) : by_ n f = by_ n g := by
  refine ext' rfl fun i hi => ?_
  rw [row_by, row_by, if_pos hi, if_pos hi, h i hi]
theorem set_by (n : Int) (f : Nat → BitVec 64) (i : Nat) (x : BitVec 64) : (by_ n f).setRow i x = by_ n (fun j => if i = j then x else f j) := by
  refine ext' (by rw [n_setRow]; rfl) fun j hj => ?_
  rw [row_setRow, row_by, row_by, if_pos hj, if_pos hj]
  by_cases h : i = j
  · subst h; simp [hj]
  · simp [h]
theorem void_by (n : Int) : void n = by_ n (fun _ => 0#64) := by
  refine ext' rfl fun i _ => ?_
  rw [row_void, row_by]; split <;> rfl
end Rl

theorem bit_iff (x : BitVec 64) (k : Nat) : (x >>> k &&& 1#64) = 1#64 ↔ x.getLsbD k = true := by
  constructor
  · intro h
    have := congrArg (fun y => BitVec.getLsbD y 0) h
    simpa using this
  · intro h
    apply BitVec.eq_of_getLsbD_eq
    intro i hi
    simp only [BitVec.getLsbD_and, BitVec.getLsbD_ushiftRight, BitVec.getLsbD_one]
    by_cases h0 : i = 0
    · subst h0; simp [h]
    · simp [h0]

/-- All pairs from one set to another. -/
def crossL (n : Int) (from_ to : BitVec 64) : Rl :=
  if n < 0 ∨ n > 64 then Rl.void 0 else Rl.by_ n fun i => if (i : Int) < n ∧ from_.getLsbD i then to &&& mask n else 0#64

/-- Its beginning. -/
def crossP (n : Int) (from_ to : BitVec 64) (k : Nat) : Rl := Rl.by_ n fun i => if i < k ∧ from_.getLsbD i then to &&& mask n else 0#64

theorem crossP_end {n : Int} {from_ to : BitVec 64} {k : Nat} (h0 : ¬ n < 0) (h1 : ¬ n > 64) (h : (k : Int) = n) : crossP n from_ to k = crossL n from_ to := by
  rw [crossL, if_neg (by omega), crossP]
  exact Rl.by_congr fun i _ => by
    have : (i < k ∧ from_.getLsbD i = true) ↔ ((i : Int) < n ∧ from_.getLsbD i = true) := by
      constructor <;> rintro ⟨h2, h3⟩ <;> exact ⟨by omega, h3⟩
    simp only [this]

theorem crossP_yes {n : Int} {from_ to : BitVec 64} {k : Nat} (h : from_.getLsbD k = true) : (crossP n from_ to k).setRow k (to &&& mask n) = crossP n from_ to (k + 1) := by
  rw [crossP, Rl.set_by, crossP]
  exact Rl.by_congr fun i _ => by
    by_cases e : k = i
    · subst e; simp [h]
    · have : (i < k + 1) ↔ i < k := by omega
      simp only [this, e, if_false]

theorem crossP_no {n : Int} {from_ to : BitVec 64} {k : Nat} (h : ¬ from_.getLsbD k = true) : crossP n from_ to k = crossP n from_ to (k + 1) := by
  rw [crossP, crossP]
  exact Rl.by_congr fun i _ => by
    by_cases e : k = i
    · subst e; simp [h]
    · have : (i < k + 1) ↔ i < k := by omega
      simp only [this]

theorem crossP_0 (n : Int) (from_ to : BitVec 64) : crossP n from_ to 0 = Rl.void n := by
  rw [crossP, Rl.void_by]
  exact Rl.by_congr fun i _ => by simp
end Go.AM

namespace Go.Proofs.YtocpkgckllbjlaaDoor
open Go.AM
set_option maxRecDepth 100000

@[simp] theorem zrel : z25 = relV (Rl.void 0) := rfl
@[simp] theorem sz_int : tab.size 3 = some 1 := rfl
@[simp] theorem sz_rows : tab.size 23 = some 64 := rfl
@[simp] theorem splice_void (n : Int) : splice (relV (Rl.void 0)) 0 [.int .i64 n] = relV (Rl.void n) := rfl
theorem relV_one' (r : Rl) : (∀ c ∈ relV r, c.oneCell' = true) ↔ True := iff_true_intro (relV_one r)

theorem cross_ok (n : Int) (x y : BitVec 64) (w : World) : Gives Tryd.prog 81 [.int .i64 n, .int .u64 (un x), .int .u64 (un y)] w (encRel (crossL n x y)) := by
  refine Gives.of_run Tryd.func81 rfl (by show 3 ≤ 36; decide) ?_
  by_cases h1 : n < 0
  · refine RunF_sound tab_ok noX_local 100 [true, true] _ _ rfl ?_ ?_
    · simp [h1, fillL, Value.cells, segsVals, relV_one']
    · refine Run.retP tab_ok Tryd.func81 rfl ?_ (fun M => ?_)
      · simp [fillL, Value.cells]
      rw [crossL, if_pos (.inl h1)]; rfl
  by_cases h2 : n > 64
  · refine RunF_sound tab_ok noX_local 100 [false, true] _ _ rfl ?_ ?_
    · simp [fillL, Value.cells, segsVals, relV_one']; omega
    · refine Run.retP tab_ok Tryd.func81 rfl ?_ (fun M => ?_)
      · simp [fillL, Value.cells]
      rw [crossL, if_pos (.inr h2)]; rfl
  refine RunF_sound tab_ok noX_local 100 [false, false] _ _ rfl ?_ ?_
  · simp [fillL, Value.cells, segsVals, relV_one']; omega
  suffices H : ∀ (d k : Nat), (k : Int) + d = n → ∀ σ, inT σ.t [(0, .v (.int .i64 n)), (1, .v (.int .u64 (un x))), (2, .v (.int .u64 (un y))), (6, .ptr 0 0), (7, .ptr 1 0), (18, .v (.int .i64 n)), (19, .v (.int .i64 (k : Int)))] →
      inT σ.h [(0, .cells 25 [.vals 65 (relV (Rl.void 0))]), (1, .cells 25 [.vals 65 (relV (crossP n x y k))])] → Run _ _ σ by
    refine H n.toNat 0 (by omega) _ ⟨rfl, rfl, rfl, rfl, rfl, rfl, rfl, trivial⟩ ⟨rfl, ?_, trivial⟩
    rw [crossP_0]
    rfl
  intro d
  induction d with
  | zero =>
    intro k hk σ ht hh
    refine Run.to ?_ ht hh (n' := 2)
    refine RunF_sound tab_ok noX_local 100 [false] _ _ rfl ?_ ?_
    · simp [relV_one', segsVals]; omega
    · refine Run.retP tab_ok Tryd.func81 rfl ?_ (fun M => ?_)
      · simp
      rw [← crossP_end h1 h2 (k := k) (by omega)]; rfl
  | succ d ih =>
    intro k hk σ ht hh
    refine Run.to ?_ ht hh (n' := 2)
    have hk' : k < 64 := by omega
    by_cases c : x.getLsbD k = true
    · have c' := (bit_iff x k).2 c
      refine RunF_sound tab_ok noX_local 100 [true, true] _ _ rfl ?_ ?_
      · simp [band1_un, c']; omega
      refine Run.callFn noX_local rfl rfl rfl rfl rfl rfl rfl whole_enters rfl (fun w' _ => whole_ok n w' (by omega)) ?_
      refine RunF_sound tab_ok noX_local 100 [] _ _ rfl ?_ ?_
      · simp [okCell, Value.oneCell']; omega
      refine ih (k + 1) (by omega) _ ⟨rfl, rfl, rfl, rfl, rfl, rfl, i64_eq (wrap_succ (by omega)), trivial⟩ ⟨rfl, congrArg (fun l => some (Blk.cells 25 [.vals 65 l])) ?_, trivial⟩
      rw [band_un]
      simp [relV_set _ _ hk', crossP_yes c]
    · have c' : ¬ (x >>> k &&& 1#64) = 1#64 := fun h => c ((bit_iff x k).1 h)
      refine RunF_sound tab_ok noX_local 100 [true, false] _ _ rfl ?_ ?_
      · simp [band1_un, c']; omega
      exact ih (k + 1) (by omega) _ ⟨rfl, rfl, rfl, rfl, rfl, rfl, i64_eq (wrap_succ (by omega)), trivial⟩ ⟨rfl, by rw [← crossP_no c]; rfl, trivial⟩

theorem cross_enters : Enters Tryd.prog 81 := enters_mk Tryd.func81 (by decide) rfl

/-- Each number of a set to itself. -/
def onP (n : Int) (s : BitVec 64) (k : Nat) : Rl := Rl.by_ n fun i => if (i : Int) < n ∧ s.getLsbD i then (if i < k then 1#64 <<< i else s &&& mask n) else 0#64
def onL (n : Int) (s : BitVec 64) : Rl := if n < 0 ∨ n > 64 then Rl.void 0 else Rl.by_ n fun i => if (i : Int) < n ∧ s.getLsbD i then 1#64 <<< i else 0#64

theorem onP_0 {n : Int} {s : BitVec 64} (h0 : ¬ n < 0) (h1 : ¬ n > 64) : crossL n s s = onP n s 0 := by
  rw [crossL, if_neg (by omega), onP]
  exact Rl.by_congr fun i _ => by simp

theorem onP_end {n : Int} {s : BitVec 64} {k : Nat} (h0 : ¬ n < 0) (h1 : ¬ n > 64) (h : (k : Int) = n) : onP n s k = onL n s := by
  rw [onL, if_neg (by omega), onP]
  refine Rl.by_congr fun i _ => ?_
  by_cases c : (i : Int) < n ∧ s.getLsbD i = true
  · rw [if_pos c, if_pos c, if_pos (by omega)]
  · rw [if_neg c, if_neg c]

theorem and_bit (x : BitVec 64) (i : Nat) (h : i < 64) (hx : x.getLsbD i = true) : x &&& 1#64 <<< i = 1#64 <<< i := by
  apply BitVec.eq_of_getLsbD_eq
  intro j hj
  simp only [BitVec.getLsbD_and, BitVec.getLsbD_shiftLeft, BitVec.getLsbD_one]
  by_cases e : j = i
  · subst e; simp [hx]
  · by_cases hlt : j < i
    · simp [hlt]
    · have : ¬ (j - i = 0) := by omega
      simp [this]

theorem onP_row {n : Int} {s : BitVec 64} {k : Nat} (hk : k < 64) : (onP n s k).row k = if (k : Int) < n ∧ s.getLsbD k then s &&& mask n else 0#64 := by
  rw [onP, Rl.row_by, if_pos hk]
  simp

theorem onP_step {n : Int} {s : BitVec 64} {k : Nat} (hk : k < 64) (h0 : (k : Int) < n) : (onP n s k).setRow k ((onP n s k).row k &&& 1#64 <<< k) = onP n s (k + 1) := by
  rw [onP_row hk, onP, Rl.set_by, onP]
  refine Rl.by_congr fun i hi => ?_
  by_cases e : k = i
  · subst e
    by_cases c : s.getLsbD k = true
    · rw [if_pos rfl, if_pos ⟨h0, c⟩, if_pos ⟨h0, c⟩, if_pos (Nat.lt_succ_self _)]
      refine and_bit _ _ hk ?_
      rw [BitVec.getLsbD_and, c, mask_get n k (by omega)]
      simp; omega
    · simp [c]
  · have : (i < k + 1) ↔ i < k := by omega
    simp only [this, e, if_false]

theorem onP_n (n : Int) (s : BitVec 64) (k : Nat) : (onP n s k).n = n := rfl
theorem crossL_bad {n : Int} {x y : BitVec 64} (h : n < 0 ∨ n > 64) : crossL n x y = Rl.void 0 := by rw [crossL, if_pos h]

theorem on_ok (n : Int) (x : BitVec 64) (w : World) : Gives Tryd.prog 68 [.int .i64 n, .int .u64 (un x)] w (encRel (onL n x)) := by
  refine Gives.of_run Tryd.func68 rfl (by show 2 ≤ 27; decide) ?_
  refine RunF_sound tab_ok noX_local 100 [] _ _ rfl ?_ ?_
  · simp
  refine Run.callFn noX_local rfl rfl rfl rfl rfl rfl rfl cross_enters rfl (fun w' _ => cross_ok n x x w') ?_
  by_cases hb : n < 0 ∨ n > 64
  · rw [crossL_bad hb]
    refine RunF_sound tab_ok noX_local 100 [] _ _ rfl ?_ ?_
    · simp [segsVals, relV_one']
    refine RunF_sound tab_ok noX_local 100 [false] _ _ rfl ?_ ?_
    · simp [segsVals, relV_one', Rl.void]
    · refine Run.retP tab_ok Tryd.func68 rfl ?_ (fun M => ?_)
      · simp
      rw [onL, if_pos hb]; rfl
  have h1 : ¬ n < 0 := by omega
  have h2 : ¬ n > 64 := by omega
  rw [onP_0 h1 h2]
  refine RunF_sound tab_ok noX_local 100 [] _ _ rfl ?_ ?_
  · simp [segsVals, relV_one']
  suffices H : ∀ (d k : Nat), (k : Int) + d = n → ∀ σ, inT σ.t [(4, .ptr 0 0), (5, .ptr 1 0), (12, .v (.int .i64 n)), (13, .v (.int .i64 (k : Int)))] →
      inT σ.h [(0, .cells 25 [.vals 65 (relV (Rl.void 0))]), (1, .cells 25 [.vals 65 (relV (onP n x k))])] → Run _ _ σ by
    exact H n.toNat 0 (by omega) _ ⟨rfl, rfl, rfl, rfl, trivial⟩ ⟨rfl, rfl, trivial⟩
  intro d
  induction d with
  | zero =>
    intro k hk σ ht hh
    refine Run.to ?_ ht hh (n' := 2)
    refine RunF_sound tab_ok noX_local 100 [false] _ _ rfl ?_ ?_
    · simp [relV_one', segsVals]; omega
    · refine Run.retP tab_ok Tryd.func68 rfl ?_ (fun M => ?_)
      · simp
      rw [← onP_end h1 h2 (k := k) (by omega)]; rfl
  | succ d ih =>
    intro k hk σ ht hh
    refine Run.to ?_ ht hh (n' := 2)
    have hk' : k < 64 := by omega
    refine RunF_sound tab_ok noX_local 100 [true] _ _ rfl ?_ ?_
    · simp; omega
    refine Run.drawA noX_local rfl [3] [] rfl rfl trivial ?_
    refine RunOF_sound tab_ok noX_local rfl rfl 100 [] _ _ rfl ?_ ?_
    · simp [relV_get _ _ hk', intAt_row _ _ hk', okCell, Value.oneCell', inT]; omega
    refine RunO.done ?_
    refine RunF_sound tab_ok noX_local 100 [] _ _ rfl ?_ ?_
    · simp
    refine ih (k + 1) (by omega) _ ⟨rfl, rfl, rfl, i64_eq (wrap_succ (by omega)), trivial⟩ ⟨rfl, congrArg (fun l => some (Blk.cells 25 [.vals 65 l])) ?_, trivial⟩
    simp [intAt_row _ _ hk', shl1_un, relV_set _ _ hk', onP_step hk' (show (k : Int) < n by omega)]

theorem on_enters : Enters Tryd.prog 68 := enters_mk Tryd.func68 (by decide) rfl
end Go.Proofs.YtocpkgckllbjlaaDoor

/-
  What the reference's in, Cross and On do. Own work.
-/
namespace Go.AM

/-- A reference's Cross under way. -/
def crossQ (n : Int) (x y : BitVec 64) (k b : Nat) : Rl := Rl.by_ n fun i => if x.getLsbD i then (if i < k then y &&& mask n else if i = k then y &&& mask b else 0#64) else 0#64

theorem mask_0 : mask 0 = 0#64 := by decide
theorem crossQ_0 (n : Int) (x y : BitVec 64) : crossQ n x y 0 0 = Rl.void n := by
  rw [crossQ, Rl.void_by]
  exact Rl.by_congr fun i _ => by simp [mask_0]
theorem crossQ_row (n : Int) (x y : BitVec 64) (k : Nat) (h : (k : Int) = n) (k0 : Nat) : crossQ n x y k0 k = crossQ n x y (k0 + 1) 0 := by
  rw [crossQ, crossQ]
  refine Rl.by_congr fun i _ => ?_
  by_cases c : x.getLsbD i = true
  · rw [if_pos c, if_pos c]
    by_cases e : i = k0
    · subst e; simp [h]
    · have : (i < k0 + 1) ↔ i < k0 := by omega
      simp only [this, e, if_false]
      split
      · rfl
      · split
        · simp [mask_0]
        · rfl
  · rw [if_neg c, if_neg c]
theorem crossQ_end {n : Int} {x y : BitVec 64} {k : Nat} (h0 : ¬ n < 0) (h1 : ¬ n > 64) (h : (k : Int) = n) : crossQ n x y k 0 = crossL n x y := by
  rw [crossL, if_neg (by omega), crossQ]
  refine Rl.by_congr fun i _ => ?_
  by_cases c : x.getLsbD i = true
  · rw [if_pos c]
    by_cases e : i < k
    · rw [if_pos e, if_pos ⟨by omega, c⟩]
    · have h2 : ¬ ((i : Int) < n ∧ x.getLsbD i = true) := fun h' => by omega
      rw [if_neg e, if_neg h2]
      split
      · simp [mask_0]
      · rfl
  · rw [if_neg c, if_neg (by simp [c])]

theorem mask_or (y : BitVec 64) (b : Nat) (hb : b < 64) (h : y.getLsbD b = true) : (y &&& mask b) ||| 1#64 <<< b = y &&& mask ((b + 1 : Nat) : Int) := by
  apply BitVec.eq_of_getLsbD_eq
  intro j hj
  simp only [BitVec.getLsbD_and, BitVec.getLsbD_or, BitVec.getLsbD_shiftLeft, BitVec.getLsbD_one, mask_get _ _ (Int.natCast_nonneg _)]
  by_cases e : j = b
  · subst e; simp [h, hj]; omega
  · by_cases hlt : j < b
    · have h1 : (j : Int) < (b : Int) + 1 := by omega
      simp [hlt, h1]
    · have h1 : ¬ ((j : Int) < ((b + 1 : Nat) : Int)) := by omega
      have h2 : ¬ (j - b = 0) := by omega
      have h3 : ¬ ((j : Int) < (b : Int)) := by omega
      simp only [h1, h2, h3, and_false, decide_false, Bool.and_false, Bool.or_false]
theorem mask_no (y : BitVec 64) (b : Nat) (h : ¬ y.getLsbD b = true) : y &&& mask b = y &&& mask ((b + 1 : Nat) : Int) := by
  apply BitVec.eq_of_getLsbD_eq
  intro j hj
  simp only [BitVec.getLsbD_and, mask_get _ _ (Int.natCast_nonneg _)]
  by_cases e : j = b
  · subst e; simp [h]
  · congr 1
    apply decide_eq_decide.2
    omega

theorem crossQ_yes {n : Int} {x y : BitVec 64} {k b : Nat} (hk : k < 64) (hb : b < 64) (hx : x.getLsbD k = true) (hy : y.getLsbD b = true) :
    (crossQ n x y k b).setRow k ((crossQ n x y k b).row k ||| 1#64 <<< b) = crossQ n x y k (b + 1) := by
  have e : (crossQ n x y k b).row k = y &&& mask b := by rw [crossQ, Rl.row_by, if_pos hk, if_pos hx]; simp
  rw [e, mask_or y b hb hy, crossQ, Rl.set_by, crossQ]
  refine Rl.by_congr fun i _ => ?_
  by_cases e : k = i
  · subst e; simp [hx]
  · have e' : ¬ i = k := fun h => e h.symm
    simp only [e, e', if_false]
theorem crossQ_no {n : Int} {x y : BitVec 64} {k b : Nat} (h : ¬ (x.getLsbD k = true ∧ y.getLsbD b = true)) : crossQ n x y k b = crossQ n x y k (b + 1) := by
  rw [crossQ, crossQ]
  refine Rl.by_congr fun i _ => ?_
  by_cases c : x.getLsbD i = true
  · rw [if_pos c, if_pos c]
    by_cases e : i = k
    · subst e
      simp only [Nat.lt_irrefl, if_false, if_true]
      exact mask_no y b (fun hy => h ⟨c, hy⟩)
    · simp only [e, if_false]
  · rw [if_neg c, if_neg c]

end Go.AM

namespace Go.Proofs.YtocpkgckllbjlaaDoor
open Go.AM

/-- A reference's On under way. -/
def onQ (n : Int) (s : BitVec 64) (k : Nat) : Rl := Rl.by_ n fun i => if i < k ∧ s.getLsbD i then 1#64 <<< i else 0#64
theorem onQ_0 (n : Int) (s : BitVec 64) : onQ n s 0 = Rl.void n := by
  rw [onQ, Rl.void_by]
  exact Rl.by_congr fun i _ => by simp
theorem onQ_end {n : Int} {s : BitVec 64} {k : Nat} (h0 : ¬ n < 0) (h1 : ¬ n > 64) (h : (k : Int) = n) : onQ n s k = onL n s := by
  rw [onL, if_neg (by omega), onQ]
  refine Rl.by_congr fun i _ => ?_
  have : (i < k ∧ s.getLsbD i = true) ↔ ((i : Int) < n ∧ s.getLsbD i = true) := by
    constructor <;> rintro ⟨h2, h3⟩ <;> exact ⟨by omega, h3⟩
  simp only [this]
theorem onQ_yes {n : Int} {s : BitVec 64} {k : Nat} (hk : k < 64) (hs : s.getLsbD k = true) : (onQ n s k).setRow k ((onQ n s k).row k ||| 1#64 <<< k) = onQ n s (k + 1) := by
  have e : (onQ n s k).row k = 0#64 := by rw [onQ, Rl.row_by, if_pos hk]; simp
  rw [e, BitVec.zero_or, onQ, Rl.set_by, onQ]
  refine Rl.by_congr fun i _ => ?_
  by_cases e : k = i
  · subst e; simp [hs]
  · have : (i < k + 1) ↔ i < k := by omega
    simp only [this, e, if_false]
theorem onQ_no {n : Int} {s : BitVec 64} {k : Nat} (hs : ¬ s.getLsbD k = true) : onQ n s k = onQ n s (k + 1) := by
  rw [onQ, onQ]
  refine Rl.by_congr fun i _ => ?_
  by_cases e : k = i
  · subst e; simp [hs]
  · have : (i < k + 1) ↔ i < k := by omega
    simp only [this]

set_option maxRecDepth 100000

theorem in_ok (x : BitVec 64) (k : Nat) (w : World) : Gives Tryd.prog 90 [.int .u64 (un x), .int .i64 (k : Int)] w (.bool (x.getLsbD k)) := by
  refine Gives.of_run Tryd.func90 rfl (by show 2 ≤ 10; decide) ?_
  refine RunF_sound tab_ok noX_local 100 [] _ _ rfl ?_ ?_
  · simp
  · refine Run.retP tab_ok Tryd.func90 rfl trivial (fun M => ?_)
    simp only [conc, shr_un, band1_un, un_beq1, Int.toNat_natCast]
    congr 1
    rw [Bool.eq_iff_iff, beq_iff_eq, bit_iff]
theorem in_enters : Enters Tryd.prog 90 := enters_mk Tryd.func90 (by decide) rfl

theorem onR_ok (n : Int) (x : BitVec 64) (w : World) : Gives Tryd.prog 83 [.int .i64 n, .int .u64 (un x)] w (encRel (onL n x)) := by
  refine Gives.of_run Tryd.func83 rfl (by show 2 ≤ 34; decide) ?_
  by_cases h1 : n < 0
  · refine RunF_sound tab_ok noX_local 100 [true, true] _ _ rfl ?_ ?_
    · simp [h1, fillL, Value.cells, segsVals, relV_one']
    · refine Run.retP tab_ok Tryd.func83 rfl ?_ (fun M => ?_)
      · simp [fillL, Value.cells]
      rw [onL, if_pos (.inl h1)]; rfl
  by_cases h2 : n > 64
  · refine RunF_sound tab_ok noX_local 100 [false, true] _ _ rfl ?_ ?_
    · simp [fillL, Value.cells, segsVals, relV_one']; omega
    · refine Run.retP tab_ok Tryd.func83 rfl ?_ (fun M => ?_)
      · simp [fillL, Value.cells]
      rw [onL, if_pos (.inr h2)]; rfl
  refine RunF_sound tab_ok noX_local 100 [false, false] _ _ rfl ?_ ?_
  · simp [fillL, Value.cells, segsVals, relV_one']; omega
  suffices H : ∀ (d k : Nat), (k : Int) + d = n → ∀ σ, inT σ.t [(0, .v (.int .i64 n)), (1, .v (.int .u64 (un x))), (4, .ptr 0 0), (5, .ptr 1 0), (6, .v (.int .i64 (k : Int)))] →
      inT σ.h [(0, .cells 25 [.vals 65 (relV (Rl.void 0))]), (1, .cells 25 [.vals 65 (relV (onQ n x k))])] → Run _ _ σ by
    refine H n.toNat 0 (by omega) _ ⟨rfl, rfl, rfl, rfl, rfl, trivial⟩ ⟨rfl, ?_, trivial⟩
    rw [onQ_0]
    rfl
  intro d
  induction d with
  | zero =>
    intro k hk σ ht hh
    refine Run.to ?_ ht hh (n' := 2)
    refine RunF_sound tab_ok noX_local 100 [false] _ _ rfl ?_ ?_
    · simp [relV_one', segsVals]; omega
    · refine Run.retP tab_ok Tryd.func83 rfl ?_ (fun M => ?_)
      · simp
      rw [← onQ_end h1 h2 (k := k) (by omega)]; rfl
  | succ d ih =>
    intro k hk σ ht hh
    refine Run.to ?_ ht hh (n' := 2)
    have hk' : k < 64 := by omega
    refine RunF_sound tab_ok noX_local 100 [true] _ _ rfl ?_ ?_
    · simp; omega
    refine Run.callFn noX_local rfl rfl rfl rfl rfl rfl rfl in_enters rfl (fun w' _ => in_ok x k w') ?_
    by_cases c : x.getLsbD k = true
    · refine RunF_sound tab_ok noX_local 100 [true] _ _ rfl ?_ ?_
      · simp [c]
      refine Run.drawA noX_local rfl [3] [] rfl rfl trivial ?_
      refine RunOF_sound tab_ok noX_local rfl rfl 100 [] _ _ rfl ?_ ?_
      · simp [relV_get _ _ hk', intAt_row _ _ hk', okCell, Value.oneCell', inT]; omega
      refine RunO.done ?_
      refine RunF_sound tab_ok noX_local 100 [] _ _ rfl ?_ ?_
      · simp
      refine ih (k + 1) (by omega) _ ⟨rfl, rfl, rfl, rfl, i64_eq (wrap_succ (by omega)), trivial⟩ ⟨rfl, congrArg (fun l => some (Blk.cells 25 [.vals 65 l])) ?_, trivial⟩
      simp [intAt_row _ _ hk', shl1_un, relV_set _ _ hk', onQ_yes hk' c]
    · refine RunF_sound tab_ok noX_local 100 [false] _ _ rfl ?_ ?_
      · simp [c]
      exact ih (k + 1) (by omega) _ ⟨rfl, rfl, rfl, rfl, i64_eq (wrap_succ (by omega)), trivial⟩ ⟨rfl, by rw [← onQ_no c]; rfl, trivial⟩

theorem onR_enters : Enters Tryd.prog 83 := enters_mk Tryd.func83 (by decide) rfl

theorem crossR_ok (n : Int) (x y : BitVec 64) (w : World) : Gives Tryd.prog 82 [.int .i64 n, .int .u64 (un x), .int .u64 (un y)] w (encRel (crossL n x y)) := by
  refine Gives.of_run Tryd.func82 rfl (by show 3 ≤ 47; decide) ?_
  by_cases h1 : n < 0
  · refine RunF_sound tab_ok noX_local 100 [true, true] _ _ rfl ?_ ?_
    · simp [h1, fillL, Value.cells, segsVals, relV_one']
    · refine Run.retP tab_ok Tryd.func82 rfl ?_ (fun M => ?_)
      · simp [fillL, Value.cells]
      rw [crossL, if_pos (.inl h1)]; rfl
  by_cases h2 : n > 64
  · refine RunF_sound tab_ok noX_local 100 [false, true] _ _ rfl ?_ ?_
    · simp [fillL, Value.cells, segsVals, relV_one']; omega
    · refine Run.retP tab_ok Tryd.func82 rfl ?_ (fun M => ?_)
      · simp [fillL, Value.cells]
      rw [crossL, if_pos (.inr h2)]; rfl
  refine RunF_sound tab_ok noX_local 100 [false, false] _ _ rfl ?_ ?_
  · simp [fillL, Value.cells, segsVals, relV_one']; omega
  suffices H : ∀ (d k : Nat), (k : Int) + d = n → ∀ σ, inT σ.t [(0, .v (.int .i64 n)), (1, .v (.int .u64 (un x))), (2, .v (.int .u64 (un y))), (6, .ptr 0 0), (7, .ptr 1 0), (8, .v (.int .i64 (k : Int)))] →
      inT σ.h [(0, .cells 25 [.vals 65 (relV (Rl.void 0))]), (1, .cells 25 [.vals 65 (relV (crossQ n x y k 0))])] → Run _ _ σ by
    refine H n.toNat 0 (by omega) _ ⟨rfl, rfl, rfl, rfl, rfl, rfl, trivial⟩ ⟨rfl, ?_, trivial⟩
    rw [crossQ_0]
    rfl
  intro d
  induction d with
  | zero =>
    intro k hk σ ht hh
    refine Run.to ?_ ht hh (n' := 2)
    refine RunF_sound tab_ok noX_local 100 [false] _ _ rfl ?_ ?_
    · simp [relV_one', segsVals]; omega
    · refine Run.retP tab_ok Tryd.func82 rfl ?_ (fun M => ?_)
      · simp
      rw [← crossQ_end h1 h2 (k := k) (by omega)]; rfl
  | succ d ih =>
    intro k hk σ ht hh
    refine Run.to ?_ ht hh (n' := 2)
    have hk' : k < 64 := by omega
    refine RunF_sound tab_ok noX_local 100 [true] _ _ rfl ?_ ?_
    · simp; omega
    suffices H : ∀ (e b : Nat), (b : Int) + e = n → ∀ σ, inT σ.t [(0, .v (.int .i64 n)), (1, .v (.int .u64 (un x))), (2, .v (.int .u64 (un y))), (6, .ptr 0 0), (7, .ptr 1 0), (8, .v (.int .i64 (k : Int))), (9, .v (.int .i64 (b : Int)))] →
        inT σ.h [(0, .cells 25 [.vals 65 (relV (Rl.void 0))]), (1, .cells 25 [.vals 65 (relV (crossQ n x y k b))])] → Run _ _ σ by
      exact H n.toNat 0 (by omega) _ ⟨rfl, rfl, rfl, rfl, rfl, rfl, rfl, trivial⟩ ⟨rfl, rfl, trivial⟩
    intro e
    induction e with
    | zero =>
      intro b hb σ ht hh
      refine Run.to ?_ ht hh (n' := 2)
      refine RunF_sound tab_ok noX_local 100 [false] _ _ rfl ?_ ?_
      · simp; omega
      exact ih (k + 1) (by omega) _ ⟨rfl, rfl, rfl, rfl, rfl, i64_eq (wrap_succ (by omega)), trivial⟩ ⟨rfl, by rw [← crossQ_row n x y b (by omega)]; rfl, trivial⟩
    | succ e ih2 =>
      intro b hb σ ht hh
      refine Run.to ?_ ht hh (n' := 2)
      have hb' : b < 64 := by omega
      refine RunF_sound tab_ok noX_local 100 [true] _ _ rfl ?_ ?_
      · simp; omega
      refine Run.callFn noX_local rfl rfl rfl rfl rfl rfl rfl in_enters rfl (fun w' _ => in_ok x k w') ?_
      by_cases c : x.getLsbD k = true
      · refine RunF_sound tab_ok noX_local 100 [true] _ _ rfl ?_ ?_
        · simp [c]
        refine Run.callFn noX_local rfl rfl rfl rfl rfl rfl rfl in_enters rfl (fun w' _ => in_ok y b w') ?_
        by_cases c2 : y.getLsbD b = true
        · refine RunF_sound tab_ok noX_local 100 [true] _ _ rfl ?_ ?_
          · simp [c2]
          refine Run.drawA noX_local rfl [3] [] rfl rfl trivial ?_
          refine RunOF_sound tab_ok noX_local rfl rfl 100 [] _ _ rfl ?_ ?_
          · simp [relV_get _ _ hk', intAt_row _ _ hk', okCell, Value.oneCell', inT]; omega
          refine RunO.done ?_
          refine RunF_sound tab_ok noX_local 100 [] _ _ rfl ?_ ?_
          · simp
          refine ih2 (b + 1) (by omega) _ ⟨rfl, rfl, rfl, rfl, rfl, rfl, i64_eq (wrap_succ (by omega)), trivial⟩ ⟨rfl, congrArg (fun l => some (Blk.cells 25 [.vals 65 l])) ?_, trivial⟩
          simp [intAt_row _ _ hk', shl1_un, relV_set _ _ hk', crossQ_yes hk' hb' c c2]
        · refine RunF_sound tab_ok noX_local 100 [false] _ _ rfl ?_ ?_
          · simp [c2]
          exact ih2 (b + 1) (by omega) _ ⟨rfl, rfl, rfl, rfl, rfl, rfl, i64_eq (wrap_succ (by omega)), trivial⟩ ⟨rfl, by rw [← crossQ_no (fun h => c2 h.2)]; rfl, trivial⟩
      · refine RunF_sound tab_ok noX_local 100 [false] _ _ rfl ?_ ?_
        · simp [c]
        exact ih2 (b + 1) (by omega) _ ⟨rfl, rfl, rfl, rfl, rfl, rfl, i64_eq (wrap_succ (by omega)), trivial⟩ ⟨rfl, by rw [← crossQ_no (fun h => c h.1)]; rfl, trivial⟩

theorem crossR_enters : Enters Tryd.prog 82 := enters_mk Tryd.func82 (by decide) rfl
end Go.Proofs.YtocpkgckllbjlaaDoor

/-
  What the reference's Check does. Own work.
-/
namespace Go.Proofs.YtocpkgckllbjlaaDoor
open Go.AM
set_option maxRecDepth 100000

/-- May a pair stand in a relation? -/
def okBit (r : Rl) (a b : Nat) : Prop := ¬ (r.has a b = true ∧ ((a : Int) ≥ r.n ∨ (b : Int) ≥ r.n))

theorem good_iff (r : Rl) (a : Nat) (h0 : 0 ≤ r.n) : good r a = true ↔ ∀ b, b < 64 → okBit r a b := by
  unfold good okBit Rl.has
  constructor
  · intro h b hb hbad
    simp only [Bool.not_eq_true', Bool.or_eq_false_iff, Bool.and_eq_false_iff, decide_eq_false_iff_not, bne_eq_false_iff_eq] at h
    obtain ⟨h1, h2⟩ := h
    rcases hbad.2 with h3 | h3
    · rcases h1 with h4 | h4
      · exact h4 h3
      · rw [h4] at hbad; simp at hbad
    · have := congrArg (fun x => BitVec.getLsbD x b) h2
      simp only [BitVec.getLsbD_and, BitVec.getLsbD_not, hbad.1, mask_get _ _ h0, BitVec.getLsbD_zero] at this
      simp at this
      omega
  · intro h
    simp only [Bool.not_eq_true', Bool.or_eq_false_iff, Bool.and_eq_false_iff, decide_eq_false_iff_not, bne_eq_false_iff_eq]
    constructor
    · by_cases c : (a : Int) ≥ r.n
      · right
        apply BitVec.eq_of_getLsbD_eq
        intro b hb
        have := h b hb
        rw [BitVec.getLsbD_zero]
        cases hh : (r.row a).getLsbD b
        · rfl
        · exact absurd ⟨hh, .inl c⟩ this
      · exact .inl c
    · apply BitVec.eq_of_getLsbD_eq
      intro b hb
      rw [BitVec.getLsbD_zero, BitVec.getLsbD_and, BitVec.getLsbD_not, mask_get _ _ h0]
      cases hh : (r.row a).getLsbD b
      · rfl
      · have := h b hb
        have h3 : (b : Int) < r.n := by
          rcases Int.lt_or_le (b : Int) r.n with h3 | h3
          · exact h3
          · exact absurd ⟨hh, .inr h3⟩ this
        simp [hb, h3]

theorem bit_has (r : Rl) (a b : Nat) : ((r.row a) >>> b &&& 1#64) = 1#64 ↔ r.has a b = true := bit_iff _ _

theorem checkR_ok (r : Rl) (w : World) : Gives Tryd.prog 74 [encRel r] w (.int .i64 (checkI r)) := by
  refine Gives.of_run Tryd.func74 rfl (by show 1 ≤ 41; decide) ?_
  by_cases h1 : r.n < 0
  · refine RunF_sound tab_ok noX_local 100 [true, true] _ _ rfl ?_ ?_
    · simp [h1]
    · refine Run.retP tab_ok Tryd.func74 rfl trivial (fun M => ?_)
      rw [checkI, if_pos (.inl h1)]; rfl
  by_cases h2 : r.n > 64
  · refine RunF_sound tab_ok noX_local 100 [false, true] _ _ rfl ?_ ?_
    · simp; omega
    · refine Run.retP tab_ok Tryd.func74 rfl trivial (fun M => ?_)
      rw [checkI, if_pos (.inr h2)]; rfl
  have h0 : 0 ≤ r.n := by omega
  have bad : ∀ a b, a < 64 → b < 64 → ¬ okBit r a b → checkI r = 20 := by
    intro a b ha hb h
    rw [checkI, if_neg (by omega), if_neg (fun h' => h ((good_iff r a h0).1 (h' a ha) b hb))]
  refine RunF_sound tab_ok noX_local 100 [false, false] _ _ rfl ?_ ?_
  · simp; omega
  suffices H : ∀ (d k : Nat), k + d = 64 → (∀ i, i < k → good r i = true) → ∀ σ, inT σ.t [(1, .ptr 0 0), (3, .v (.int .i64 (k : Int)))] → inT σ.h [(0, .cells 25 [.vals 65 (relV r)])] → Run _ _ σ by
    exact H 64 0 (by omega) (fun i hi => by omega) _ ⟨rfl, rfl, trivial⟩ ⟨rfl, trivial⟩
  intro d
  induction d with
  | zero =>
    intro k hk hg σ ht hh
    refine Run.to ?_ ht hh (n' := 1)
    refine RunF_sound tab_ok noX_local 100 [false] _ _ rfl ?_ ?_
    · simp; omega
    · refine Run.retP tab_ok Tryd.func74 rfl trivial (fun M => ?_)
      rw [checkI, if_neg (by omega), if_pos (fun i hi => hg i (by omega))]; rfl
  | succ d ih =>
    intro k hk hg σ ht hh
    refine Run.to ?_ ht hh (n' := 1)
    have hk' : k < 64 := by omega
    refine RunF_sound tab_ok noX_local 100 [true] _ _ rfl ?_ ?_
    · simp; omega
    suffices H : ∀ (e b : Nat), b + e = 64 → (∀ j, j < b → okBit r k j) → ∀ σ, inT σ.t [(1, .ptr 0 0), (3, .v (.int .i64 (k : Int))), (4, .v (.int .i64 (b : Int)))] → inT σ.h [(0, .cells 25 [.vals 65 (relV r)])] → Run _ _ σ by
      exact H 64 0 (by omega) (fun i hi => by omega) _ ⟨rfl, rfl, rfl, trivial⟩ ⟨rfl, trivial⟩
    intro e
    induction e with
    | zero =>
      intro b hb hg2 σ ht hh
      refine Run.to ?_ ht hh (n' := 1)
      refine RunF_sound tab_ok noX_local 100 [false] _ _ rfl ?_ ?_
      · simp; omega
      refine ih (k + 1) (by omega) ?_ _ ⟨rfl, i64_eq (wrap_succ (by omega)), trivial⟩ ⟨rfl, trivial⟩
      intro i hi
      rcases Nat.lt_or_ge i k with h | h
      · exact hg i h
      · obtain rfl : i = k := by omega
        exact (good_iff r i h0).2 fun j hj => hg2 j (by omega)
    | succ e ih2 =>
      intro b hb hg2 σ ht hh
      refine Run.to ?_ ht hh (n' := 1)
      have hb' : b < 64 := by omega
      have nxt : okBit r k b → ∀ j, j < b + 1 → okBit r k j := by
        intro h j hj
        rcases Nat.lt_or_ge j b with h' | h'
        · exact hg2 j h'
        · obtain rfl : j = b := by omega
          exact h
      by_cases c : r.has k b = true
      · have c' := (bit_has r k b).2 c
        by_cases c1 : (k : Int) ≥ r.n
        · refine RunF_sound tab_ok noX_local 100 [true, true, true] _ _ rfl ?_ ?_
          · simp [relV_get _ _ hk', intAt_row _ _ hk', band1_un, c']; omega
          · refine Run.retP tab_ok Tryd.func74 rfl trivial (fun M => ?_)
            rw [bad k b hk' hb' (fun h => h ⟨c, .inl c1⟩)]; rfl
        · by_cases c2 : (b : Int) ≥ r.n
          · refine RunF_sound tab_ok noX_local 100 [true, true, false, true] _ _ rfl ?_ ?_
            · simp [relV_get _ _ hk', intAt_row _ _ hk', band1_un, c']; omega
            · refine Run.retP tab_ok Tryd.func74 rfl trivial (fun M => ?_)
              rw [bad k b hk' hb' (fun h => h ⟨c, .inr c2⟩)]; rfl
          · refine RunF_sound tab_ok noX_local 200 [true, true, false, false] _ _ rfl ?_ ?_
            · simp [relV_get _ _ hk', intAt_row _ _ hk', band1_un, c']; omega
            · have hn := nxt (fun h => h.2.elim c1 c2)
              exact ih2 (b + 1) (by omega) hn _ ⟨rfl, rfl, i64_eq (wrap_succ (by omega)), trivial⟩ ⟨rfl, trivial⟩
      · have c' : ¬ ((r.row k) >>> b &&& 1#64) = 1#64 := fun h => c ((bit_has r k b).1 h)
        refine RunF_sound tab_ok noX_local 100 [true, false] _ _ rfl ?_ ?_
        · simp [relV_get _ _ hk', intAt_row _ _ hk', band1_un, c']; omega
        · exact ih2 (b + 1) (by omega) (nxt (fun h => c h.1)) _ ⟨rfl, rfl, i64_eq (wrap_succ (by omega)), trivial⟩ ⟨rfl, trivial⟩

theorem checkR_enters : Enters Tryd.prog 74 := enters_mk Tryd.func74 (by decide) rfl
end Go.Proofs.YtocpkgckllbjlaaDoor

/-
  What Of does, here and in the reference; lists of pairs compared. Own work.
-/
namespace Go.Proofs.YtocpkgckllbjlaaDoor
open Go.AM
set_option maxRecDepth 100000

/-- A slice of pairs, as it lies in a world. -/
def SeesE (w : World) (p : Option Addr) (xs : List (Int × Int)) : Prop :=
  ∀ i (h : i < xs.length), p = some (p.getD default) ∧ extCells w ((p.getD default).add (i * 2)) 0 2 = [.int .i64 xs[i].1, .int .i64 xs[i].2] ∧ ∀ j, j < 2 → (w.cell? (((p.getD default).add (i * 2)).add j)).isSome

theorem SeesE.agree {S : Nat → Prop} {w w' : World} {p : Option Addr} {xs : List (Int × Int)} (h : SeesE w p xs) (hA : Agree S w w') (hS : ∀ a, p = some a → ¬ S a.block) : SeesE w' p xs := by
  intro i hi
  obtain ⟨h1, h2, h3⟩ := h i hi
  have hb : ∀ j, w'.cell? (((p.getD default).add (i * 2)).add j) = w.cell? (((p.getD default).add (i * 2)).add j) ∨ w.cell? (((p.getD default).add (i * 2)).add j) = none := by
    intro j
    cases hc : w.cell? (((p.getD default).add (i * 2)).add j) with
    | none => exact .inr rfl
    | some x => exact .inl (hA.cell hc (by rw [add_block, add_block]; exact hS _ h1))
  have hs : ∀ j, j < 2 → w'.cell? (((p.getD default).add (i * 2)).add j) = w.cell? (((p.getD default).add (i * 2)).add j) := by
    intro j hj
    rcases hb j with h | h
    · exact h
    · have := h3 j hj; rw [h] at this; cases this
  refine ⟨h1, ?_, fun j hj => by rw [hs j hj]; exact h3 j hj⟩
  rw [← h2]
  simp only [extCells, hs 0 (by omega), hs (0 + 1) (by omega)]

def badE (n : Int) (e : Int × Int) : Prop := e.1 < 0 ∨ e.1 ≥ n ∨ e.2 < 0 ∨ e.2 ≥ n
instance (n : Int) (e : Int × Int) : Decidable (badE n e) := by unfold badE; infer_instance

def ofGo (n : Int) (r : Rl) : List (Int × Int) → Rl × Int
  | [] => (r, 0)
  | e :: l => if badE n e then (Rl.void 0, 4) else ofGo n (r.setRow e.1.toNat (r.row e.1.toNat ||| 1#64 <<< e.2.toNat)) l
def ofL (n : Int) (xs : List (Int × Int)) : Rl × Int := if n < 0 ∨ n > 64 then (Rl.void 0, 4) else ofGo n (Rl.void n) xs
def ofV (x : Rl × Int) : Value := .tuple #[encRel x.1, .int .i64 x.2]

@[simp] theorem intAt_p0 (a b : Int) : intAt [.int .i64 a, .int .i64 b] 0 = a := rfl
@[simp] theorem intAt_p1 (a b : Int) : intAt [.int .i64 a, .int .i64 b] 1 = b := rfl
@[simp] theorem one_int (k : IntKind) (n : Int) : (Value.int k n).oneCell' = true := rfl
@[simp] theorem zedge : z67 = [.int .i64 0, .int .i64 0] := rfl

theorem of_ok (n : Int) (p : Option Addr) (c : Nat) (xs : List (Int × Int)) (w : World) (hs : SeesE w p xs) (hl : xs.length ≤ maxLen) : Gives Tryd.prog 65 [.int .i64 n, .slice p xs.length c] w (ofV (ofL n xs)) := by
  refine Gives.of_run Tryd.func65 rfl (by show 2 ≤ 58; decide) ?_
  by_cases h1 : n < 0
  · refine RunF_sound tab_ok noX_local 100 [true, true] _ _ rfl ?_ ?_
    · simp [h1, fillL, Value.cells, segsVals, relV_one']
    · refine Run.retL tab_ok Tryd.func65 rfl ?_ (fun M => ?_)
      · simp [fillL, Value.cells]
      rw [ofL, if_pos (.inl h1)]; rfl
  by_cases h2 : n > 64
  · refine RunF_sound tab_ok noX_local 100 [false, true] _ _ rfl ?_ ?_
    · simp [fillL, Value.cells, segsVals, relV_one']; omega
    · refine Run.retL tab_ok Tryd.func65 rfl ?_ (fun M => ?_)
      · simp [fillL, Value.cells]
      rw [ofL, if_pos (.inr h2)]; rfl
  rw [ofL, if_neg (by omega)]
  generalize hR : ofGo n (Rl.void n) xs = R
  have hmax : (xs.length : Int) ≤ 9223372036854775807 := by simp only [maxLen] at hl; omega
  refine RunF_sound tab_ok noX_local 100 [false, false] _ _ rfl ?_ ?_
  · simp [fillL, Value.cells, segsVals, relV_one']; omega
  suffices H : ∀ (d k : Nat) (r : Rl), k + d = xs.length → R = ofGo n r (xs.drop k) → ∀ σ, inT σ.t [(0, .v (.int .i64 n)), (4, .ptr 0 0), (6, .ptr 1 0), (18, .v (.slice p xs.length c)), (19, .v (.int .i64 (xs.length : Int))), (20, .v (.int .i64 (k : Int)))] →
      inT σ.h [(0, .cells 25 [.vals 65 (relV (Rl.void 0))]), (1, .cells 25 [.vals 65 (relV r)])] → Run _ _ σ by
    exact H xs.length 0 (Rl.void n) (by omega) hR.symm _ ⟨rfl, rfl, rfl, rfl, rfl, rfl, trivial⟩ ⟨rfl, rfl, trivial⟩
  intro d
  induction d with
  | zero =>
    intro k r hk hv σ ht hh
    refine Run.to ?_ ht hh (n' := 2)
    refine RunF_sound tab_ok noX_local 100 [false] _ _ rfl ?_ ?_
    · simp [relV_one', segsVals]; omega
    · refine Run.retL tab_ok Tryd.func65 rfl ?_ (fun M => ?_)
      · simp
      rw [hv, List.drop_eq_nil_of_le (by omega)]; rfl
  | succ d ih =>
    intro k r hk hv σ ht hh
    refine Run.to ?_ ht hh (n' := 2)
    have hk' : k < xs.length := by omega
    obtain ⟨e1, e2, e3⟩ := hs k hk'
    obtain ⟨a, rfl⟩ : ∃ a, p = some a := ⟨_, e1⟩
    simp only [Option.getD_some] at e2 e3
    rw [List.drop_eq_getElem_cons hk', ofGo] at hv
    generalize xs[k] = e at *
    obtain ⟨A, B⟩ := e
    simp only at hv e2
    by_cases bad : badE n (A, B)
    · rw [if_pos bad] at hv
      unfold badE at bad
      by_cases b1 : A < 0
      · refine RunF_sound tab_ok noX_local 200 [true, true, true] _ _ rfl ?_ ?_
        · simp [e2, segsVals, fillL, Value.cells, relV_one']; exact ⟨by omega, e3, by omega⟩
        · refine Run.retL tab_ok Tryd.func65 rfl ?_ (fun M => ?_)
          · simp [fillL, Value.cells]
          rw [hv]; rfl
      by_cases b2 : A ≥ n
      · refine RunF_sound tab_ok noX_local 200 [true, false, true, true] _ _ rfl ?_ ?_
        · simp [e2, segsVals, fillL, Value.cells, relV_one']; exact ⟨by omega, e3, by omega, by omega⟩
        · refine Run.retL tab_ok Tryd.func65 rfl ?_ (fun M => ?_)
          · simp [fillL, Value.cells]
          rw [hv]; rfl
      by_cases b3 : B < 0
      · refine RunF_sound tab_ok noX_local 200 [true, false, false, true, true] _ _ rfl ?_ ?_
        · simp [e2, segsVals, fillL, Value.cells, relV_one']; exact ⟨by omega, e3, by omega, by omega, by omega⟩
        · refine Run.retL tab_ok Tryd.func65 rfl ?_ (fun M => ?_)
          · simp [fillL, Value.cells]
          rw [hv]; rfl
      have b4 : B ≥ n := by simp only at bad; omega
      refine RunF_sound tab_ok noX_local 200 [true, false, false, false, true] _ _ rfl ?_ ?_
      · simp [e2, segsVals, fillL, Value.cells, relV_one']; exact ⟨by omega, e3, by omega, by omega, by omega, by omega⟩
      · refine Run.retL tab_ok Tryd.func65 rfl ?_ (fun M => ?_)
        · simp [fillL, Value.cells]
        rw [hv]; rfl
    · rw [if_neg bad] at hv
      simp only [badE, not_or] at bad
      obtain ⟨b1, b2, b3, b4⟩ := bad
      refine RunF_sound tab_ok noX_local 200 [true, false, false, false, false] _ _ rfl ?_ ?_
      · simp [e2, segsVals]; exact ⟨by omega, e3, by omega, by omega, by omega, by omega⟩
      refine Run.drawA noX_local rfl [4] [(2, .cells 67 [.vals 2 [.int .i64 A, .int .i64 B]])] rfl rfl ⟨congrArg (fun l => some (Blk.cells 67 [.vals 2 l])) e2, trivial⟩ ?_
      refine RunOF_sound tab_ok noX_local rfl rfl 100 [] _ _ rfl ?_ ?_
      · have hA : A.toNat < 64 := by omega
        simp [relV_get _ _ hA, intAt_row _ _ hA, okCell, Value.oneCell', inT, lk, e2]; omega
      refine RunO.done ?_
      refine RunF_sound tab_ok noX_local 100 [] _ _ rfl ?_ ?_
      · simp
      refine ih (k + 1) _ (by omega) hv _ ⟨rfl, rfl, rfl, rfl, rfl, i64_eq (wrap_succ (by omega)), trivial⟩ ⟨rfl, congrArg (fun l => some (Blk.cells 25 [.vals 65 l])) ?_, trivial⟩
      have hA : A.toNat < 64 := by omega
      simp [intAt_row _ _ hA, shl1_un, relV_set _ _ hA]
theorem of_enters : Enters Tryd.prog 65 := enters_mk Tryd.func65 (by decide) rfl

theorem eqEdge (a b c d : Int) : EqT Tryd.prog 67 #[.int .i64 a, .int .i64 b] #[.int .i64 c, .int .i64 d] (decide (a = c ∧ b = d)) := by
  refine ⟨by kernel_rfl, fun w => ?_⟩
  have hu := tab_undP tab_ok (t := 67) (d := .struct #[{ name := "A", type := 3, offset := 0, embedded := false, tag := "", pkgPath := "", byteOffset := 0 }, { name := "B", type := 3, offset := 1, embedded := false, tag := "", pkgPath := "", byteOffset := 8 }]) rfl
  have hf : Tryd.prog.fieldsOf 67 = #[{ name := "A", type := 3, offset := 0, embedded := false, tag := "", pkgPath := "", byteOffset := 0 }, { name := "B", type := 3, offset := 1, embedded := false, tag := "", pkgPath := "", byteOffset := 8 }] := by simp [Program.fieldsOf, hu]
  rw [run_equalIn_struct w 9999 _ _ _ (by rw [hf]; exact hu) (by kernel_rfl), hf]
  have hi := tab_undP tab_ok (t := 3) (d := .int .i64) rfl
  have p0 : ∀ x y : Int, (part 3 #[.int .i64 x, .int .i64 y] 0).run Tryd.prog w = .ok (.int .i64 x) w := fun x y => part_run tab_ok (t := 3) (vs := #[.int .i64 x, .int .i64 y]) (j := 0) (p := _) (x := .int .i64 x) rfl rfl w
  have p1 : ∀ x y : Int, (part 3 #[.int .i64 x, .int .i64 y] 1).run Tryd.prog w = .ok (.int .i64 y) w := fun x y => part_run tab_ok (t := 3) (vs := #[.int .i64 x, .int .i64 y]) (j := 1) (p := _) (x := .int .i64 y) rfl rfl w
  have he : ∀ x y : Int, (Op.equalIn 9999 3 (.int .i64 x) (.int .i64 y)).run Tryd.prog w = .ok (x == y) w := fun x y => run_equalIn_int w 9998 _ _ _ _ _ hi
  by_cases h1 : a = c <;> by_cases h2 : b = d <;> simp [Op.eqFields, p0, p1, he, h1, h2]

end Go.Proofs.YtocpkgckllbjlaaDoor

/-
  Relations compared; lists of pairs compared; num. Own work.
-/
namespace Go.Proofs.YtocpkgckllbjlaaDoor
open Go.AM
set_option maxRecDepth 100000

theorem eqRow (r s : Rl) (w : World) : ∀ (is : List Nat), (∀ i ∈ is, i < 64) → ∃ b : Bool, (Op.eqItems 9998 22 1 (rowV r).toArray (rowV s).toArray is).run Tryd.prog w = .ok b w ∧ (b = true ↔ ∀ i ∈ is, r.row i = s.row i)
  | [], _ => ⟨true, by simp [Op.eqItems], by simp⟩
  | i :: is, h => by
    have hi : i < 64 := h i (by simp)
    have hu := tab_undP tab_ok (t := 22) (d := .int .u64) rfl
    have p : ∀ r : Rl, (part 22 (rowV r).toArray i).run Tryd.prog w = .ok (.int .u64 (un (r.row i))) w := fun r => by
      have := part_run tab_ok (P := Tryd.prog) (t := 22) (vs := (rowV r).toArray) (j := i) (p := _) (x := _) rfl (by rw [rowV_get r i hi, intAt_rowV r i hi]) w
      rw [this, intAt_rowV r i hi]
    have he : ∀ x y : Int, (Op.equalIn 9998 22 (.int .u64 x) (.int .u64 y)).run Tryd.prog w = .ok (x == y) w := fun x y => run_equalIn_int w 9997 _ _ _ _ _ hu
    obtain ⟨b, ih, hb⟩ := eqRow r s w is (fun j hj => h j (by simp [hj]))
    by_cases c : r.row i = s.row i
    · exact ⟨b, by simp [Op.eqItems, p, he, c, ih], by simp [hb, c]⟩
    · exact ⟨false, by simp [Op.eqItems, p, he, c], by simp [c]⟩

theorem eqRows (r s : Rl) (w : World) : ∃ b : Bool, (Op.equalIn 9999 23 (.agg (rowV r).toArray) (.agg (rowV s).toArray)).run Tryd.prog w = .ok b w ∧ (b = true ↔ ∀ i, i < 64 → r.row i = s.row i) := by
  have ha := tab_undP tab_ok (t := 23) (d := .array 64 22) rfl
  obtain ⟨i, hinfo⟩ : ∃ i, Tryd.prog.info? 22 = some i := by
    obtain ⟨_, x, hx, _⟩ := tab_ok 22 _ (rfl : lk tab 22 = some _)
    exact ⟨x, hx⟩
  have hc : Tryd.prog.cellsOf 22 = 1 := by kernel_rfl
  obtain ⟨b, hb, hb'⟩ := eqRow r s w (List.range 64) (fun i hi => List.mem_range.1 hi)
  refine ⟨b, ?_, hb'.trans ⟨fun h i hi => h i (List.mem_range.2 hi), fun h i hi => h i (List.mem_range.1 hi)⟩⟩
  rw [run_equalIn_array w 9998 _ _ ha hinfo, hc]
  exact hb

theorem relP0 (r : Rl) (w : World) : (part 3 (relV r).toArray 0).run Tryd.prog w = .ok (.int .i64 r.n) w :=
  part_run tab_ok (t := 3) (vs := (relV r).toArray) (j := 0) (p := _) (x := .int .i64 r.n) rfl (by simp) w
theorem relP1 (r : Rl) (w : World) : (part 23 (relV r).toArray 1).run Tryd.prog w = .ok (.agg (rowV r).toArray) w := by
  have := part_run tab_ok (P := Tryd.prog) (t := 23) (vs := (relV r).toArray) (j := 1) (p := _) (x := _) rfl (by simp) w
  simp only [relV_drop] at this
  exact this

theorem eqFields_cons {P : Program} {d : Nat} {xs ys : Array Value} {f : Field} {fs : List Field} {a b : Value} {r r' : Bool} {w : World} (hn : f.name ≠ "_") (ha : (part f.type xs f.offset).run P w = .ok a w) (hb : (part f.type ys f.offset).run P w = .ok b w)
    (hr : (Op.equalIn d f.type a b).run P w = .ok r w) (h : r = true → (Op.eqFields d xs ys fs).run P w = .ok r' w) : (Op.eqFields d xs ys (f :: fs)).run P w = .ok (r && r') w := by
  cases r
  · simp [Op.eqFields, hn, ha, hb, hr]
  · simp [Op.eqFields, hn, ha, hb, hr, h rfl]

theorem eqRel (r s : Rl) : EqT Tryd.prog 25 (relV r).toArray (relV s).toArray (decide (r = s)) := by
  refine ⟨by kernel_rfl, fun w => ?_⟩
  have hu := tab_undP tab_ok (t := 25) (d := .struct #[{ name := "N", type := 3, offset := 0, embedded := false, tag := "", pkgPath := "", byteOffset := 0 }, { name := "Rows", type := 23, offset := 1, embedded := false, tag := "", pkgPath := "", byteOffset := 8 }]) rfl
  have hf : Tryd.prog.fieldsOf 25 = #[{ name := "N", type := 3, offset := 0, embedded := false, tag := "", pkgPath := "", byteOffset := 0 }, { name := "Rows", type := 23, offset := 1, embedded := false, tag := "", pkgPath := "", byteOffset := 8 }] := by simp [Program.fieldsOf, hu]
  rw [run_equalIn_struct w 9999 _ _ _ (by rw [hf]; exact hu) (by kernel_rfl), hf]
  have hi := tab_undP tab_ok (t := 3) (d := .int .i64) rfl
  have he : (Op.equalIn 9999 3 (.int .i64 r.n) (.int .i64 s.n)).run Tryd.prog w = .ok (r.n == s.n) w := run_equalIn_int w 9998 _ _ _ _ _ hi
  obtain ⟨b, hr, hb⟩ := eqRows r s w
  have e : decide (r = s) = ((r.n == s.n) && (b && true)) := by
    rw [Bool.eq_iff_iff, decide_eq_true_eq, Rl.ext_iff', Bool.and_true, Bool.and_eq_true, beq_iff_eq, hb]
  rw [e]
  exact eqFields_cons (by decide) (relP0 r w) (relP0 s w) he fun _ => eqFields_cons (by decide) (relP1 r w) (relP1 s w) hr fun _ => by simp [Op.eqFields]

theorem num_ok (n : Int) (w : World) : Gives Tryd.prog 63 [.int .i64 n] w (.int .i64 n) := by
  refine Gives.of_run Tryd.func63 rfl (by show 1 ≤ 4; decide) ?_
  refine RunF_sound tab_ok noX_local 100 [] _ _ rfl ?_ ?_
  · simp
  · exact Run.retP tab_ok Tryd.func63 rfl trivial (fun M => rfl)
theorem num_enters : Enters Tryd.prog 63 := enters_mk Tryd.func63 (by decide) rfl

theorem sameEdges_ok (p q : Option Addr) (c c' : Nat) (xs ys : List (Int × Int)) (w : World) (hs : SeesE w p xs) (hs' : SeesE w q ys) (hl : xs.length ≤ maxLen) :
    Gives Tryd.prog 20 [.slice p xs.length c, .slice q ys.length c'] w (.bool (decide (xs = ys))) := by
  refine Gives.of_run Tryd.func20 rfl (by show 2 ≤ 26; decide) ?_
  by_cases h1 : xs.length = ys.length
  · refine RunF_sound tab_ok noX_local 100 [false] _ _ rfl ?_ ?_
    · simp; omega
    suffices H : ∀ (d k : Nat), k + d = xs.length → (xs = ys ↔ xs.drop k = ys.drop k) → ∀ σ, inT σ.t [(0, .v (.slice p xs.length c)), (1, .v (.slice q ys.length c')), (5, .v (.int .i64 (k : Int)))] → inT σ.h [] → Run _ _ σ by
      exact H xs.length 0 (by omega) (by simp) _ ⟨rfl, rfl, rfl, trivial⟩ trivial
    intro d
    induction d with
    | zero =>
      intro k hk hv σ ht hh
      refine Run.to ?_ ht hh (n' := 0)
      refine RunF_sound tab_ok noX_local 100 [false] _ _ rfl ?_ ?_
      · simp; omega
      · refine Run.retP tab_ok Tryd.func20 rfl trivial (fun M => ?_)
        rw [decide_eq_true (hv.2 (by rw [List.drop_eq_nil_of_le (by omega), List.drop_eq_nil_of_le (by omega)]))]; rfl
    | succ d ih =>
      intro k hk hv σ ht hh
      refine Run.to ?_ ht hh (n' := 0)
      have hk1 : k < xs.length := by omega
      have hk2 : k < ys.length := by omega
      have hkm : (k : Int) < 9223372036854775807 := by simp only [maxLen] at hl; omega
      obtain ⟨e1, e2, e3⟩ := hs k hk1
      obtain ⟨f1, f2, f3⟩ := hs' k hk2
      rw [List.drop_eq_getElem_cons hk1, List.drop_eq_getElem_cons hk2, List.cons.injEq] at hv
      refine RunF_sound tab_ok noX_local 100 [true] _ _ rfl ?_ ?_
      · simp; omega
      refine Run.drawA noX_local rfl [] [] rfl rfl trivial ?_
      refine RunOF_sound tab_ok noX_local rfl rfl 100 [] _ _ rfl ?_ ?_
      · simp only [fnC_w0, fnC_S0, Int.toNat_natCast]
        simp
        exact ⟨⟨e1, hk1⟩, e3, ⟨f1, hk2⟩, f3⟩
      refine RunO.cmp rfl rfl rfl rfl rfl rfl rfl (b := decide (xs[k] = ys[k])) (c := !(decide (xs[k] = ys[k]))) ?_ (.inr ⟨rfl, rfl⟩) ?_
      · have h := eqEdge xs[k].1 xs[k].2 ys[k].1 ys[k].2
        rw [← decide_eq_decide.2 (Prod.ext_iff (x := xs[k]) (y := ys[k]))] at h
        have g1 : (extCells w ((p.getD default).add (k * 2)) 0 2).toArray = #[.int .i64 xs[k].1, .int .i64 xs[k].2] := by rw [e2]
        have g2 : (extCells w ((q.getD default).add (k * 2)) 0 2).toArray = #[.int .i64 ys[k].1, .int .i64 ys[k].2] := by rw [f2]
        rw [← g1, ← g2] at h
        exact h
      refine RunO.done ?_
      by_cases c1 : xs[k] = ys[k]
      · refine RunF_sound tab_ok noX_local 100 [false] _ _ rfl ?_ ?_
        · simp [c1]
        · exact ih (k + 1) (by omega) (hv.trans ⟨fun h => h.2, fun h => ⟨c1, h⟩⟩) _ ⟨rfl, rfl, i64_eq (wrap_succ (by omega)), trivial⟩ trivial
      · refine RunF_sound tab_ok noX_local 100 [true] _ _ rfl ?_ ?_
        · simp [c1]
        · refine Run.retP tab_ok Tryd.func20 rfl trivial (fun M => ?_)
          rw [decide_eq_false (fun h => c1 (hv.1 h).1)]; rfl
  · refine RunF_sound tab_ok noX_local 100 [true] _ _ rfl ?_ ?_
    · simp; omega
    · refine Run.retP tab_ok Tryd.func20 rfl trivial (fun M => ?_)
      rw [decide_eq_false (fun h => h1 (by rw [h]))]; rfl
theorem sameEdges_enters : Enters Tryd.prog 20 := enters_mk Tryd.func20 (by decide) rfl
end Go.Proofs.YtocpkgckllbjlaaDoor

/-
  RelMakes: what it does. Own work.
-/
namespace Go.Proofs.YtocpkgckllbjlaaDoor
open Go.AM
set_option maxRecDepth 100000

/-- Pairs, as cells. -/
def encE : List (Int × Int) → List Value
  | [] => []
  | e :: l => .int .i64 e.1 :: .int .i64 e.2 :: encE l
theorem encE_length : ∀ l : List (Int × Int), (encE l).length = l.length * 2
  | [] => rfl
  | e :: l => by simp [encE, encE_length l]; omega
theorem encE_get : ∀ (l : List (Int × Int)) (i : Nat) (h : i < l.length), (encE l)[i * 2]? = some (.int .i64 l[i].1) ∧ (encE l)[i * 2 + 1]? = some (.int .i64 l[i].2)
  | [], i, h => by simp at h
  | e :: l, 0, h => by simp [encE]
  | e :: l, i + 1, h => by
    have := encE_get l i (by simpa using h)
    rw [show (i + 1) * 2 = i * 2 + 2 by omega]
    simpa [encE] using this
theorem encE_one (l : List (Int × Int)) : ∀ c ∈ encE l, c.oneCell' = true := by
  induction l with
  | nil => intro c h; cases h
  | cons e l ih =>
    intro c h
    simp only [encE, List.mem_cons] at h
    rcases h with rfl | rfl | h
    · rfl
    · rfl
    · exact ih c h

theorem seesE_row {M : AM.Loc} {w : World} {id e n : Nat} {vs : List Value} (hb : BlkAt M w id (.row e 2 n vs)) {xs : List (Int × Int)} (h : ∀ i (h : i < xs.length), vs[i * 2]? = some (.int .i64 xs[i].1) ∧ vs[i * 2 + 1]? = some (.int .i64 xs[i].2)) :
    SeesE w (some ⟨(M id).1, 0, none⟩) xs := by
  intro i hi
  obtain ⟨h1, h2⟩ := h i hi
  have c1 := row_cells hb _ _ h1
  have c2 := row_cells hb _ _ h2
  rw [Nat.zero_add] at c1 c2
  refine ⟨rfl, ?_, ?_⟩
  · simp [extCells, Addr.add_lit, c1, c2]
  · intro j hj
    rcases (show j = 0 ∨ j = 1 by omega) with rfl | rfl
    · simp [Addr.add_lit, c1]
    · simp [Addr.add_lit, c2]

theorem add_add (a : Addr) (i j : Nat) : (a.add i).add j = a.add (i + j) := by
  obtain ⟨b, o, x⟩ := a
  unfold Addr.add
  split <;> split <;> simp_all <;> omega

theorem ext_enc (w : World) (a : Addr) : ∀ (xs : List (Int × Int)) (k : Nat), (∀ i (h : i < xs.length), extCells w (a.add ((k + i) * 2)) 0 2 = [.int .i64 xs[i].1, .int .i64 xs[i].2]) → extCells w a (k * 2) (xs.length * 2) = encE xs
  | [], _, _ => rfl
  | e :: l, k, h => by
    have h0 := h 0 (by simp)
    simp only [extCells, Nat.add_zero, List.getElem_cons_zero, List.cons.injEq, and_true, Nat.zero_add, add_add] at h0
    have ih := ext_enc w a l (k + 1) (fun i hi => by
      have := h (i + 1) (by simpa using hi)
      rw [show k + 1 + i = k + (i + 1) by omega]
      simpa using this)
    rw [show (e :: l).length * 2 = l.length * 2 + 1 + 1 by simp; omega]
    simp only [extCells, encE]
    rw [h0.1, h0.2, show k * 2 + 1 + 1 = (k + 1) * 2 by omega, ih]

theorem SeesE.ext {w : World} {a : Addr} {xs : List (Int × Int)} (h : SeesE w (some a) xs) : extCells w a 0 (xs.length * 2) = encE xs := by
  have := ext_enc w a xs 0 (fun i hi => by simpa using (h i hi).2.1)
  simpa using this
theorem SeesE.some' {w : World} {a : Addr} {xs : List (Int × Int)} (h : SeesE w (some a) xs) : ∀ j, j < xs.length * 2 → (w.cell? (a.add j)).isSome := by
  intro j hj
  have := (h (j / 2) (by omega)).2.2 (j % 2) (by omega)
  rw [Option.getD_some, add_add, show j / 2 * 2 + j % 2 = j by omega] at this
  exact this

end Go.Proofs.YtocpkgckllbjlaaDoor
