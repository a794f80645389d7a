/-
  Own work, merged: Tab, B1.
-/
import Derived.AtR
import Derived.Below
import Derived.ChangeKeysEq
import Derived.KernelRfl
import Derived.Laws.AppendOwn
import Derived.Laws.BytesString
import Derived.Laws.Cells
import Derived.Laws.CopyRow
import Derived.Laws.Entries
import Derived.Laws.Rows
import Derived.Laws.Small
import Derived.Laws.StructEq
import Derived.Lib.TrailingZeros
import Derived.Maps.AppendAt
import Derived.OpenShut
import Derived.Orders
import Derived.ProofKit
import Derived.RangeFuncRecord
import Derived.Test.YtpfanhbkjajocaaDoorProg
import Derived.Test.YtpfanhbkjajocaaDoorQ4D8368
/- The table of this seat's types, as the program has them. Printed by a program of our own off the translation. -/
namespace Go.Proofs.YtpfanhbkjajocaaDoor
open Go.AM

def ti1 : TI := ⟨.func #[] #[] false, 1, 8, .nilFunc⟩
def ti2 : TI := ⟨.int .i64, 1, 8, (.int .i64 0)⟩
def ti3 : TI := ⟨.int .i64, 1, 8, (.int .i64 0)⟩
def ti4 : TI := ⟨.bool, 1, 1, (.bool false)⟩
def ti5 : TI := ⟨.int .u8, 1, 1, (.int .u8 0)⟩
def ti9 : TI := ⟨.string, 1, 16, (.string ⟨#[]⟩)⟩
def ti12 : TI := ⟨.int .u64, 1, 8, (.int .u64 0)⟩
def z13 : List Value := [(.string ⟨#[]⟩)] ++ [(.int .u64 0)]
def ti13 : TI := ⟨.struct #[{ name := "msg", type := 9, offset := 0, embedded := false, tag := "", pkgPath := "runtime", byteOffset := 0 }, { name := "addr", type := 12, offset := 1, embedded := false, tag := "", pkgPath := "runtime", byteOffset := 16 }], 2, 24, .agg z13.toArray⟩
def z19 : List Value := [(.pointer none)]
def ti19 : TI := ⟨.struct #[{ name := "typ", type := 17, offset := 0, embedded := false, tag := "", pkgPath := "internal/runtime/maps", byteOffset := 0 }], 1, 8, .agg z19.toArray⟩
def ti21 : TI := ⟨.int .i32, 1, 4, (.int .i32 0)⟩
def ti22 : TI := ⟨.int .u64, 1, 8, (.int .u64 0)⟩
def ti23 : TI := ⟨.int .u64, 1, 8, (.int .u64 0)⟩
def ti24 : TI := ⟨.func #[23, 3] #[4] false, 1, 8, .nilFunc⟩
def ti25 : TI := ⟨.func #[22, 3] #[4] false, 1, 8, .nilFunc⟩
def ti26 : TI := ⟨.func #[23, 3] #[23] false, 1, 8, .nilFunc⟩
def ti27 : TI := ⟨.func #[22, 3] #[22] false, 1, 8, .nilFunc⟩
def ti28 : TI := ⟨.func #[23] #[3] false, 1, 8, .nilFunc⟩
def ti29 : TI := ⟨.func #[22] #[3] false, 1, 8, .nilFunc⟩
def ti30 : TI := ⟨.func #[23, 3] #[3] false, 1, 8, .nilFunc⟩
def ti31 : TI := ⟨.func #[22, 3] #[3] false, 1, 8, .nilFunc⟩
def ti32 : TI := ⟨.func #[3] #[23] false, 1, 8, .nilFunc⟩
def ti33 : TI := ⟨.func #[3] #[22] false, 1, 8, .nilFunc⟩
def ti34 : TI := ⟨.func #[81] #[] false, 1, 8, .nilFunc⟩
def ti35 : TI := ⟨.func #[81] #[] false, 1, 8, .nilFunc⟩
def ti36 : TI := ⟨.func #[23] #[35] false, 1, 8, .nilFunc⟩
def ti37 : TI := ⟨.slice 3, 1, 24, (.slice none 0 0)⟩
def ti38 : TI := ⟨.func #[22] #[37] false, 1, 8, .nilFunc⟩
def ti39 : TI := ⟨.func #[40, 43, 3] #[4] false, 1, 8, .nilFunc⟩
def ti40 : TI := ⟨.func #[52] #[] false, 1, 8, .nilFunc⟩
def ti41 : TI := ⟨.func #[52] #[] false, 1, 8, .nilFunc⟩
def ti42 : TI := ⟨.func #[23] #[41] false, 1, 8, .nilFunc⟩
def ti43 : TI := ⟨.slice 22, 1, 24, (.slice none 0 0)⟩
def ti44 : TI := ⟨.func #[22, 3] #[43] false, 1, 8, .nilFunc⟩
def ti45 : TI := ⟨.func #[23, 3] #[41] false, 1, 8, .nilFunc⟩
def ti46 : TI := ⟨.func #[22, 3, 3] #[43] false, 1, 8, .nilFunc⟩
def ti47 : TI := ⟨.func #[23, 3, 3, 3] #[4] false, 1, 8, .nilFunc⟩
def z48 : List Value := [(.slice none 0 0), (.slice none 0 0)]
def ti48 : TI := ⟨.struct #[{ name := "Cores", type := 43, offset := 0, embedded := false, tag := "", pkgPath := "", byteOffset := 0 }, { name := "Odd", type := 43, offset := 1, embedded := false, tag := "", pkgPath := "", byteOffset := 24 }], 2, 48, .agg z48.toArray⟩
def z49 : List Value := [(.slice none 0 0), (.slice none 0 0)]
def ti49 : TI := ⟨.struct #[{ name := "Cores", type := 43, offset := 0, embedded := false, tag := "", pkgPath := "", byteOffset := 0 }, { name := "Odd", type := 43, offset := 1, embedded := false, tag := "", pkgPath := "", byteOffset := 24 }], 2, 48, .agg z49.toArray⟩
def ti50 : TI := ⟨.func #[23, 52] #[41] false, 1, 8, .nilFunc⟩
def ti51 : TI := ⟨.func #[22] #[4] false, 1, 8, .nilFunc⟩
def ti52 : TI := ⟨.func #[23] #[4] false, 1, 8, .nilFunc⟩
def ti54 : TI := ⟨.func #[22, 49, 3] #[43, 43] false, 1, 8, .nilFunc⟩
def ti55 : TI := ⟨.func #[23, 49, 3] #[4] false, 1, 8, .nilFunc⟩
def ti56 : TI := ⟨.func #[2] #[9] false, 1, 8, .nilFunc⟩
def ti57 : TI := ⟨.func #[2] #[4] false, 1, 8, .nilFunc⟩
def ti58 : TI := ⟨.int .i64, 1, 8, (.int .i64 0)⟩
def ti60 : TI := ⟨.func #[37] #[23, 58] false, 1, 8, .nilFunc⟩
def ti62 : TI := ⟨.func #[37] #[22, 3] false, 1, 8, .nilFunc⟩
def ti63 : TI := ⟨.func #[23] #[37] false, 1, 8, .nilFunc⟩
def ti64 : TI := ⟨.func #[37, 37] #[4] false, 1, 8, .nilFunc⟩
def ti65 : TI := ⟨.func #[23] #[9] false, 1, 8, .nilFunc⟩
def ti66 : TI := ⟨.func #[22] #[9] false, 1, 8, .nilFunc⟩
def ti67 : TI := ⟨.func #[37, 23] #[4] false, 1, 8, .nilFunc⟩
def ti68 : TI := ⟨.func #[] #[4] false, 1, 8, .nilFunc⟩
def ti69 : TI := ⟨.func #[3] #[9] false, 1, 8, .nilFunc⟩
def z70 : List Value := [(.string ⟨#[]⟩), (.string ⟨#[]⟩), (.string ⟨#[]⟩), (.string ⟨#[]⟩), (.string ⟨#[]⟩), (.string ⟨#[]⟩)]
def ti70 : TI := ⟨.array 6 9, 6, 96, .agg z70.toArray⟩
def ti72 : TI := ⟨.func #[9] #[2, 58] false, 1, 8, .nilFunc⟩
def ti74 : TI := ⟨.func #[9, 3] #[2, 3, 58] false, 1, 8, .nilFunc⟩
def ti75 : TI := ⟨.func #[58] #[3] false, 1, 8, .nilFunc⟩
def ti76 : TI := ⟨.func #[2, 3] #[4] false, 1, 8, .nilFunc⟩
def ti77 : TI := ⟨.func #[9, 3] #[4] false, 1, 8, .nilFunc⟩
def ti78 : TI := ⟨.slice 2, 1, 24, (.slice none 0 0)⟩
def ti79 : TI := ⟨.func #[78, 9, 3] #[4] false, 1, 8, .nilFunc⟩
def ti80 : TI := ⟨.map 23 3, 1, 8, (.map none)⟩
def ti81 : TI := ⟨.func #[3] #[4] false, 1, 8, .nilFunc⟩
def ti82 : TI := ⟨.int .u64, 1, 8, (.int .u64 0)⟩
def ti83 : TI := ⟨.func #[22, 22] #[22] false, 1, 8, .nilFunc⟩
def ti84 : TI := ⟨.func #[37, 3] #[4] false, 1, 8, .nilFunc⟩
def ti85 : TI := ⟨.slice 23, 1, 24, (.slice none 0 0)⟩
def ti86 : TI := ⟨.func #[85, 23] #[4] false, 1, 8, .nilFunc⟩
def ti87 : TI := ⟨.func #[2, 3] #[9] false, 1, 8, .nilFunc⟩
def ti88 : TI := ⟨.func #[22, 22] #[9] false, 1, 8, .nilFunc⟩
def ti89 : TI := ⟨.func #[22, 3] #[9] false, 1, 8, .nilFunc⟩
def ti90 : TI := ⟨.slice 9, 1, 24, (.slice none 0 0)⟩
def ti91 : TI := ⟨.func #[90, 9] #[9] false, 1, 8, .nilFunc⟩
def ti92 : TI := ⟨.slice 5, 1, 24, (.slice none 0 0)⟩
def ti93 : TI := ⟨.func #[9] #[3] false, 1, 8, .nilFunc⟩
def ti95 : TI := ⟨.func #[9, 9] #[9, 4] false, 1, 8, .nilFunc⟩
def ti97 : TI := ⟨.func #[5, 22] #[22, 4] false, 1, 8, .nilFunc⟩
def ti99 : TI := ⟨.func #[22, 22] #[22, 22] false, 1, 8, .nilFunc⟩
def ti100 : TI := ⟨.func #[22, 22, 22] #[22, 22] false, 1, 8, .nilFunc⟩
def z101 : List Value := List.replicate 64 (.int .u8 0)
def ti101 : TI := ⟨.array 64 5, 64, 64, .agg z101.toArray⟩
def ti105 : TI := ⟨.func #[3] #[] false, 1, 8, .nilFunc⟩
def ti109 : TI := ⟨.func #[9] #[3, 107] false, 1, 8, .nilFunc⟩
def ti110 : TI := ⟨.func #[] #[9] false, 1, 8, .nilFunc⟩
def z111 : List Value := List.replicate 24 (.int .u8 0)
def ti111 : TI := ⟨.array 24 5, 24, 24, .agg z111.toArray⟩
def ti112 : TI := ⟨.func #[92, 22] #[] false, 1, 8, .nilFunc⟩
def ti114 : TI := ⟨.func #[92, 22, 3, 4, 4] #[92, 9] false, 1, 8, .nilFunc⟩
def ti115 : TI := ⟨.pointer 5, 1, 8, (.pointer none)⟩
def ti116 : TI := ⟨.func #[9, 9] #[4] false, 1, 8, .nilFunc⟩
def ti117 : TI := ⟨.func #[3] #[3] false, 1, 8, .nilFunc⟩
def ti118 : TI := ⟨.func #[4] #[3] false, 1, 8, .nilFunc⟩
def z119 : List Value := List.replicate 20 (.int .u64 0)
def ti119 : TI := ⟨.array 20 22, 20, 160, .agg z119.toArray⟩
def ti120 : TI := ⟨.int .u32, 1, 4, (.int .u32 0)⟩
def z121 : List Value := List.replicate 65 (.int .u8 0)
def ti121 : TI := ⟨.array 65 5, 65, 65, .agg z121.toArray⟩
def ti122 : TI := ⟨.func #[82] #[3] false, 1, 8, .nilFunc⟩
def ti124 : TI := ⟨.func #[123] #[123] false, 1, 8, .nilFunc⟩
def ti125 : TI := ⟨.func #[3] #[92] false, 1, 8, .nilFunc⟩
def ti126 : TI := ⟨.func #[120] #[3] false, 1, 8, .nilFunc⟩
def z127 : List Value := List.replicate 32 (.int .u8 0)
def ti127 : TI := ⟨.array 32 5, 32, 32, .agg z127.toArray⟩
def ti133 : TI := ⟨.func #[] #[3] false, 1, 8, .nilFunc⟩
def ti136 : TI := ⟨.func #[123, 123] #[4] false, 1, 8, .nilFunc⟩
def tab : Tab := [(1, ti1), (2, ti2), (3, ti3), (4, ti4), (5, ti5), (9, ti9), (12, ti12), (13, ti13), (19, ti19), (21, ti21), (22, ti22), (23, ti23), (24, ti24), (25, ti25), (26, ti26), (27, ti27), (28, ti28), (29, ti29), (30, ti30), (31, ti31), (32, ti32), (33, ti33), (34, ti34), (35, ti35), (36, ti36), (37, ti37), (38, ti38), (39, ti39), (40, ti40), (41, ti41), (42, ti42), (43, ti43), (44, ti44), (45, ti45), (46, ti46), (47, ti47), (48, ti48), (49, ti49), (50, ti50), (51, ti51), (52, ti52), (54, ti54), (55, ti55), (56, ti56), (57, ti57), (58, ti58), (60, ti60), (62, ti62), (63, ti63), (64, ti64), (65, ti65), (66, ti66), (67, ti67), (68, ti68), (69, ti69), (70, ti70), (72, ti72), (74, ti74), (75, ti75), (76, ti76), (77, ti77), (78, ti78), (79, ti79), (80, ti80), (81, ti81), (82, ti82), (83, ti83), (84, ti84), (85, ti85), (86, ti86), (87, ti87), (88, ti88), (89, ti89), (90, ti90), (91, ti91), (92, ti92), (93, ti93), (95, ti95), (97, ti97), (99, ti99), (100, ti100), (101, ti101), (105, ti105), (109, ti109), (110, ti110), (111, ti111), (112, ti112), (114, ti114), (115, ti115), (116, ti116), (117, ti117), (118, ti118), (119, ti119), (120, ti120), (121, ti121), (122, ti122), (124, ti124), (125, ti125), (126, ti126), (127, ti127), (133, ti133), (136, ti136)]
set_option maxRecDepth 100000
theorem tab_ok0 : tabOK Tryd.prog [] := tabOK_nil _
theorem tab_a136 : Tryd.prog.underlying 136 = some ti136.d := by kernel_rfl
theorem tab_b136 : (Tryd.prog.info? 136).map (fun x => (x.zero, x.size, x.bytes)) = some (some ti136.zero, ti136.size, ti136.bytes) := by kernel_rfl
theorem tab_a133 : Tryd.prog.underlying 133 = some ti133.d := by kernel_rfl
theorem tab_b133 : (Tryd.prog.info? 133).map (fun x => (x.zero, x.size, x.bytes)) = some (some ti133.zero, ti133.size, ti133.bytes) := by kernel_rfl
theorem tab_a127 : Tryd.prog.underlying 127 = some ti127.d := by kernel_rfl
theorem tab_b127 : (Tryd.prog.info? 127).map (fun x => (x.zero, x.size, x.bytes)) = some (some ti127.zero, ti127.size, ti127.bytes) := by kernel_rfl
theorem tab_a126 : Tryd.prog.underlying 126 = some ti126.d := by kernel_rfl
theorem tab_b126 : (Tryd.prog.info? 126).map (fun x => (x.zero, x.size, x.bytes)) = some (some ti126.zero, ti126.size, ti126.bytes) := by kernel_rfl
theorem tab_a125 : Tryd.prog.underlying 125 = some ti125.d := by kernel_rfl
theorem tab_b125 : (Tryd.prog.info? 125).map (fun x => (x.zero, x.size, x.bytes)) = some (some ti125.zero, ti125.size, ti125.bytes) := by kernel_rfl
theorem tab_a124 : Tryd.prog.underlying 124 = some ti124.d := by kernel_rfl
theorem tab_b124 : (Tryd.prog.info? 124).map (fun x => (x.zero, x.size, x.bytes)) = some (some ti124.zero, ti124.size, ti124.bytes) := by kernel_rfl
theorem tab_a122 : Tryd.prog.underlying 122 = some ti122.d := by kernel_rfl
theorem tab_b122 : (Tryd.prog.info? 122).map (fun x => (x.zero, x.size, x.bytes)) = some (some ti122.zero, ti122.size, ti122.bytes) := by kernel_rfl
theorem tab_a121 : Tryd.prog.underlying 121 = some ti121.d := by kernel_rfl
theorem tab_b121 : (Tryd.prog.info? 121).map (fun x => (x.zero, x.size, x.bytes)) = some (some ti121.zero, ti121.size, ti121.bytes) := by kernel_rfl
theorem tab_a120 : Tryd.prog.underlying 120 = some ti120.d := by kernel_rfl
theorem tab_b120 : (Tryd.prog.info? 120).map (fun x => (x.zero, x.size, x.bytes)) = some (some ti120.zero, ti120.size, ti120.bytes) := by kernel_rfl
theorem tab_a119 : Tryd.prog.underlying 119 = some ti119.d := by kernel_rfl
theorem tab_b119 : (Tryd.prog.info? 119).map (fun x => (x.zero, x.size, x.bytes)) = some (some ti119.zero, ti119.size, ti119.bytes) := by kernel_rfl
theorem tab_a118 : Tryd.prog.underlying 118 = some ti118.d := by kernel_rfl
theorem tab_b118 : (Tryd.prog.info? 118).map (fun x => (x.zero, x.size, x.bytes)) = some (some ti118.zero, ti118.size, ti118.bytes) := by kernel_rfl
theorem tab_a117 : Tryd.prog.underlying 117 = some ti117.d := by kernel_rfl
theorem tab_b117 : (Tryd.prog.info? 117).map (fun x => (x.zero, x.size, x.bytes)) = some (some ti117.zero, ti117.size, ti117.bytes) := by kernel_rfl
theorem tab_a116 : Tryd.prog.underlying 116 = some ti116.d := by kernel_rfl
theorem tab_b116 : (Tryd.prog.info? 116).map (fun x => (x.zero, x.size, x.bytes)) = some (some ti116.zero, ti116.size, ti116.bytes) := by kernel_rfl
theorem tab_a115 : Tryd.prog.underlying 115 = some ti115.d := by kernel_rfl
theorem tab_b115 : (Tryd.prog.info? 115).map (fun x => (x.zero, x.size, x.bytes)) = some (some ti115.zero, ti115.size, ti115.bytes) := by kernel_rfl
theorem tab_a114 : Tryd.prog.underlying 114 = some ti114.d := by kernel_rfl
theorem tab_b114 : (Tryd.prog.info? 114).map (fun x => (x.zero, x.size, x.bytes)) = some (some ti114.zero, ti114.size, ti114.bytes) := by kernel_rfl
theorem tab_a112 : Tryd.prog.underlying 112 = some ti112.d := by kernel_rfl
theorem tab_b112 : (Tryd.prog.info? 112).map (fun x => (x.zero, x.size, x.bytes)) = some (some ti112.zero, ti112.size, ti112.bytes) := by kernel_rfl
theorem tab_a111 : Tryd.prog.underlying 111 = some ti111.d := by kernel_rfl
theorem tab_b111 : (Tryd.prog.info? 111).map (fun x => (x.zero, x.size, x.bytes)) = some (some ti111.zero, ti111.size, ti111.bytes) := by kernel_rfl
theorem tab_a110 : Tryd.prog.underlying 110 = some ti110.d := by kernel_rfl
theorem tab_b110 : (Tryd.prog.info? 110).map (fun x => (x.zero, x.size, x.bytes)) = some (some ti110.zero, ti110.size, ti110.bytes) := by kernel_rfl
theorem tab_a109 : Tryd.prog.underlying 109 = some ti109.d := by kernel_rfl
theorem tab_b109 : (Tryd.prog.info? 109).map (fun x => (x.zero, x.size, x.bytes)) = some (some ti109.zero, ti109.size, ti109.bytes) := by kernel_rfl
theorem tab_a105 : Tryd.prog.underlying 105 = some ti105.d := by kernel_rfl
theorem tab_b105 : (Tryd.prog.info? 105).map (fun x => (x.zero, x.size, x.bytes)) = some (some ti105.zero, ti105.size, ti105.bytes) := by kernel_rfl
theorem tab_a101 : Tryd.prog.underlying 101 = some ti101.d := by kernel_rfl
theorem tab_b101 : (Tryd.prog.info? 101).map (fun x => (x.zero, x.size, x.bytes)) = some (some ti101.zero, ti101.size, ti101.bytes) := by kernel_rfl
theorem tab_a100 : Tryd.prog.underlying 100 = some ti100.d := by kernel_rfl
theorem tab_b100 : (Tryd.prog.info? 100).map (fun x => (x.zero, x.size, x.bytes)) = some (some ti100.zero, ti100.size, ti100.bytes) := by kernel_rfl
theorem tab_a99 : Tryd.prog.underlying 99 = some ti99.d := by kernel_rfl
theorem tab_b99 : (Tryd.prog.info? 99).map (fun x => (x.zero, x.size, x.bytes)) = some (some ti99.zero, ti99.size, ti99.bytes) := by kernel_rfl
theorem tab_a97 : Tryd.prog.underlying 97 = some ti97.d := by kernel_rfl
theorem tab_b97 : (Tryd.prog.info? 97).map (fun x => (x.zero, x.size, x.bytes)) = some (some ti97.zero, ti97.size, ti97.bytes) := by kernel_rfl
theorem tab_a95 : Tryd.prog.underlying 95 = some ti95.d := by kernel_rfl
theorem tab_b95 : (Tryd.prog.info? 95).map (fun x => (x.zero, x.size, x.bytes)) = some (some ti95.zero, ti95.size, ti95.bytes) := by kernel_rfl
theorem tab_a93 : Tryd.prog.underlying 93 = some ti93.d := by kernel_rfl
theorem tab_b93 : (Tryd.prog.info? 93).map (fun x => (x.zero, x.size, x.bytes)) = some (some ti93.zero, ti93.size, ti93.bytes) := by kernel_rfl
theorem tab_a92 : Tryd.prog.underlying 92 = some ti92.d := by kernel_rfl
theorem tab_b92 : (Tryd.prog.info? 92).map (fun x => (x.zero, x.size, x.bytes)) = some (some ti92.zero, ti92.size, ti92.bytes) := by kernel_rfl
theorem tab_a91 : Tryd.prog.underlying 91 = some ti91.d := by kernel_rfl
theorem tab_b91 : (Tryd.prog.info? 91).map (fun x => (x.zero, x.size, x.bytes)) = some (some ti91.zero, ti91.size, ti91.bytes) := by kernel_rfl
theorem tab_a90 : Tryd.prog.underlying 90 = some ti90.d := by kernel_rfl
theorem tab_b90 : (Tryd.prog.info? 90).map (fun x => (x.zero, x.size, x.bytes)) = some (some ti90.zero, ti90.size, ti90.bytes) := by kernel_rfl
theorem tab_a89 : Tryd.prog.underlying 89 = some ti89.d := by kernel_rfl
theorem tab_b89 : (Tryd.prog.info? 89).map (fun x => (x.zero, x.size, x.bytes)) = some (some ti89.zero, ti89.size, ti89.bytes) := by kernel_rfl
theorem tab_a88 : Tryd.prog.underlying 88 = some ti88.d := by kernel_rfl
theorem tab_b88 : (Tryd.prog.info? 88).map (fun x => (x.zero, x.size, x.bytes)) = some (some ti88.zero, ti88.size, ti88.bytes) := by kernel_rfl
theorem tab_a87 : Tryd.prog.underlying 87 = some ti87.d := by kernel_rfl
theorem tab_b87 : (Tryd.prog.info? 87).map (fun x => (x.zero, x.size, x.bytes)) = some (some ti87.zero, ti87.size, ti87.bytes) := by kernel_rfl
theorem tab_a86 : Tryd.prog.underlying 86 = some ti86.d := by kernel_rfl
theorem tab_b86 : (Tryd.prog.info? 86).map (fun x => (x.zero, x.size, x.bytes)) = some (some ti86.zero, ti86.size, ti86.bytes) := by kernel_rfl
theorem tab_a85 : Tryd.prog.underlying 85 = some ti85.d := by kernel_rfl
theorem tab_b85 : (Tryd.prog.info? 85).map (fun x => (x.zero, x.size, x.bytes)) = some (some ti85.zero, ti85.size, ti85.bytes) := by kernel_rfl
theorem tab_a84 : Tryd.prog.underlying 84 = some ti84.d := by kernel_rfl
theorem tab_b84 : (Tryd.prog.info? 84).map (fun x => (x.zero, x.size, x.bytes)) = some (some ti84.zero, ti84.size, ti84.bytes) := by kernel_rfl
theorem tab_a83 : Tryd.prog.underlying 83 = some ti83.d := by kernel_rfl
theorem tab_b83 : (Tryd.prog.info? 83).map (fun x => (x.zero, x.size, x.bytes)) = some (some ti83.zero, ti83.size, ti83.bytes) := by kernel_rfl
theorem tab_a82 : Tryd.prog.underlying 82 = some ti82.d := by kernel_rfl
theorem tab_b82 : (Tryd.prog.info? 82).map (fun x => (x.zero, x.size, x.bytes)) = some (some ti82.zero, ti82.size, ti82.bytes) := by kernel_rfl
theorem tab_a81 : Tryd.prog.underlying 81 = some ti81.d := by kernel_rfl
theorem tab_b81 : (Tryd.prog.info? 81).map (fun x => (x.zero, x.size, x.bytes)) = some (some ti81.zero, ti81.size, ti81.bytes) := by kernel_rfl
theorem tab_a80 : Tryd.prog.underlying 80 = some ti80.d := by kernel_rfl
theorem tab_b80 : (Tryd.prog.info? 80).map (fun x => (x.zero, x.size, x.bytes)) = some (some ti80.zero, ti80.size, ti80.bytes) := by kernel_rfl
theorem tab_a79 : Tryd.prog.underlying 79 = some ti79.d := by kernel_rfl
theorem tab_b79 : (Tryd.prog.info? 79).map (fun x => (x.zero, x.size, x.bytes)) = some (some ti79.zero, ti79.size, ti79.bytes) := by kernel_rfl
theorem tab_a78 : Tryd.prog.underlying 78 = some ti78.d := by kernel_rfl
theorem tab_b78 : (Tryd.prog.info? 78).map (fun x => (x.zero, x.size, x.bytes)) = some (some ti78.zero, ti78.size, ti78.bytes) := by kernel_rfl
theorem tab_a77 : Tryd.prog.underlying 77 = some ti77.d := by kernel_rfl
theorem tab_b77 : (Tryd.prog.info? 77).map (fun x => (x.zero, x.size, x.bytes)) = some (some ti77.zero, ti77.size, ti77.bytes) := by kernel_rfl
theorem tab_a76 : Tryd.prog.underlying 76 = some ti76.d := by kernel_rfl
theorem tab_b76 : (Tryd.prog.info? 76).map (fun x => (x.zero, x.size, x.bytes)) = some (some ti76.zero, ti76.size, ti76.bytes) := by kernel_rfl
theorem tab_a75 : Tryd.prog.underlying 75 = some ti75.d := by kernel_rfl
theorem tab_b75 : (Tryd.prog.info? 75).map (fun x => (x.zero, x.size, x.bytes)) = some (some ti75.zero, ti75.size, ti75.bytes) := by kernel_rfl
theorem tab_a74 : Tryd.prog.underlying 74 = some ti74.d := by kernel_rfl
theorem tab_b74 : (Tryd.prog.info? 74).map (fun x => (x.zero, x.size, x.bytes)) = some (some ti74.zero, ti74.size, ti74.bytes) := by kernel_rfl
theorem tab_a72 : Tryd.prog.underlying 72 = some ti72.d := by kernel_rfl
theorem tab_b72 : (Tryd.prog.info? 72).map (fun x => (x.zero, x.size, x.bytes)) = some (some ti72.zero, ti72.size, ti72.bytes) := by kernel_rfl
theorem tab_a70 : Tryd.prog.underlying 70 = some ti70.d := by kernel_rfl
theorem tab_b70 : (Tryd.prog.info? 70).map (fun x => (x.zero, x.size, x.bytes)) = some (some ti70.zero, ti70.size, ti70.bytes) := by kernel_rfl
theorem tab_a69 : Tryd.prog.underlying 69 = some ti69.d := by kernel_rfl
theorem tab_b69 : (Tryd.prog.info? 69).map (fun x => (x.zero, x.size, x.bytes)) = some (some ti69.zero, ti69.size, ti69.bytes) := by kernel_rfl
theorem tab_a68 : Tryd.prog.underlying 68 = some ti68.d := by kernel_rfl
theorem tab_b68 : (Tryd.prog.info? 68).map (fun x => (x.zero, x.size, x.bytes)) = some (some ti68.zero, ti68.size, ti68.bytes) := by kernel_rfl
theorem tab_a67 : Tryd.prog.underlying 67 = some ti67.d := by kernel_rfl
theorem tab_b67 : (Tryd.prog.info? 67).map (fun x => (x.zero, x.size, x.bytes)) = some (some ti67.zero, ti67.size, ti67.bytes) := by kernel_rfl
theorem tab_a66 : Tryd.prog.underlying 66 = some ti66.d := by kernel_rfl
theorem tab_b66 : (Tryd.prog.info? 66).map (fun x => (x.zero, x.size, x.bytes)) = some (some ti66.zero, ti66.size, ti66.bytes) := by kernel_rfl
theorem tab_a65 : Tryd.prog.underlying 65 = some ti65.d := by kernel_rfl
theorem tab_b65 : (Tryd.prog.info? 65).map (fun x => (x.zero, x.size, x.bytes)) = some (some ti65.zero, ti65.size, ti65.bytes) := by kernel_rfl
theorem tab_a64 : Tryd.prog.underlying 64 = some ti64.d := by kernel_rfl
theorem tab_b64 : (Tryd.prog.info? 64).map (fun x => (x.zero, x.size, x.bytes)) = some (some ti64.zero, ti64.size, ti64.bytes) := by kernel_rfl
theorem tab_a63 : Tryd.prog.underlying 63 = some ti63.d := by kernel_rfl
theorem tab_b63 : (Tryd.prog.info? 63).map (fun x => (x.zero, x.size, x.bytes)) = some (some ti63.zero, ti63.size, ti63.bytes) := by kernel_rfl
theorem tab_a62 : Tryd.prog.underlying 62 = some ti62.d := by kernel_rfl
theorem tab_b62 : (Tryd.prog.info? 62).map (fun x => (x.zero, x.size, x.bytes)) = some (some ti62.zero, ti62.size, ti62.bytes) := by kernel_rfl
theorem tab_a60 : Tryd.prog.underlying 60 = some ti60.d := by kernel_rfl
theorem tab_b60 : (Tryd.prog.info? 60).map (fun x => (x.zero, x.size, x.bytes)) = some (some ti60.zero, ti60.size, ti60.bytes) := by kernel_rfl
theorem tab_a58 : Tryd.prog.underlying 58 = some ti58.d := by kernel_rfl
theorem tab_b58 : (Tryd.prog.info? 58).map (fun x => (x.zero, x.size, x.bytes)) = some (some ti58.zero, ti58.size, ti58.bytes) := by kernel_rfl
theorem tab_a57 : Tryd.prog.underlying 57 = some ti57.d := by kernel_rfl
theorem tab_b57 : (Tryd.prog.info? 57).map (fun x => (x.zero, x.size, x.bytes)) = some (some ti57.zero, ti57.size, ti57.bytes) := by kernel_rfl
theorem tab_a56 : Tryd.prog.underlying 56 = some ti56.d := by kernel_rfl
theorem tab_b56 : (Tryd.prog.info? 56).map (fun x => (x.zero, x.size, x.bytes)) = some (some ti56.zero, ti56.size, ti56.bytes) := by kernel_rfl
theorem tab_a55 : Tryd.prog.underlying 55 = some ti55.d := by kernel_rfl
theorem tab_b55 : (Tryd.prog.info? 55).map (fun x => (x.zero, x.size, x.bytes)) = some (some ti55.zero, ti55.size, ti55.bytes) := by kernel_rfl
theorem tab_a54 : Tryd.prog.underlying 54 = some ti54.d := by kernel_rfl
theorem tab_b54 : (Tryd.prog.info? 54).map (fun x => (x.zero, x.size, x.bytes)) = some (some ti54.zero, ti54.size, ti54.bytes) := by kernel_rfl
theorem tab_a52 : Tryd.prog.underlying 52 = some ti52.d := by kernel_rfl
theorem tab_b52 : (Tryd.prog.info? 52).map (fun x => (x.zero, x.size, x.bytes)) = some (some ti52.zero, ti52.size, ti52.bytes) := by kernel_rfl
theorem tab_a51 : Tryd.prog.underlying 51 = some ti51.d := by kernel_rfl
theorem tab_b51 : (Tryd.prog.info? 51).map (fun x => (x.zero, x.size, x.bytes)) = some (some ti51.zero, ti51.size, ti51.bytes) := by kernel_rfl
theorem tab_a50 : Tryd.prog.underlying 50 = some ti50.d := by kernel_rfl
theorem tab_b50 : (Tryd.prog.info? 50).map (fun x => (x.zero, x.size, x.bytes)) = some (some ti50.zero, ti50.size, ti50.bytes) := by kernel_rfl
theorem tab_a49 : Tryd.prog.underlying 49 = some ti49.d := by kernel_rfl
theorem tab_b49 : (Tryd.prog.info? 49).map (fun x => (x.zero, x.size, x.bytes)) = some (some ti49.zero, ti49.size, ti49.bytes) := by kernel_rfl
theorem tab_a48 : Tryd.prog.underlying 48 = some ti48.d := by kernel_rfl
theorem tab_b48 : (Tryd.prog.info? 48).map (fun x => (x.zero, x.size, x.bytes)) = some (some ti48.zero, ti48.size, ti48.bytes) := by kernel_rfl
theorem tab_a47 : Tryd.prog.underlying 47 = some ti47.d := by kernel_rfl
theorem tab_b47 : (Tryd.prog.info? 47).map (fun x => (x.zero, x.size, x.bytes)) = some (some ti47.zero, ti47.size, ti47.bytes) := by kernel_rfl
theorem tab_a46 : Tryd.prog.underlying 46 = some ti46.d := by kernel_rfl
theorem tab_b46 : (Tryd.prog.info? 46).map (fun x => (x.zero, x.size, x.bytes)) = some (some ti46.zero, ti46.size, ti46.bytes) := by kernel_rfl
theorem tab_a45 : Tryd.prog.underlying 45 = some ti45.d := by kernel_rfl
theorem tab_b45 : (Tryd.prog.info? 45).map (fun x => (x.zero, x.size, x.bytes)) = some (some ti45.zero, ti45.size, ti45.bytes) := by kernel_rfl
theorem tab_a44 : Tryd.prog.underlying 44 = some ti44.d := by kernel_rfl
theorem tab_b44 : (Tryd.prog.info? 44).map (fun x => (x.zero, x.size, x.bytes)) = some (some ti44.zero, ti44.size, ti44.bytes) := by kernel_rfl
theorem tab_a43 : Tryd.prog.underlying 43 = some ti43.d := by kernel_rfl
theorem tab_b43 : (Tryd.prog.info? 43).map (fun x => (x.zero, x.size, x.bytes)) = some (some ti43.zero, ti43.size, ti43.bytes) := by kernel_rfl
theorem tab_a42 : Tryd.prog.underlying 42 = some ti42.d := by kernel_rfl
theorem tab_b42 : (Tryd.prog.info? 42).map (fun x => (x.zero, x.size, x.bytes)) = some (some ti42.zero, ti42.size, ti42.bytes) := by kernel_rfl
theorem tab_a41 : Tryd.prog.underlying 41 = some ti41.d := by kernel_rfl
theorem tab_b41 : (Tryd.prog.info? 41).map (fun x => (x.zero, x.size, x.bytes)) = some (some ti41.zero, ti41.size, ti41.bytes) := by kernel_rfl
theorem tab_a40 : Tryd.prog.underlying 40 = some ti40.d := by kernel_rfl
theorem tab_b40 : (Tryd.prog.info? 40).map (fun x => (x.zero, x.size, x.bytes)) = some (some ti40.zero, ti40.size, ti40.bytes) := by kernel_rfl
theorem tab_a39 : Tryd.prog.underlying 39 = some ti39.d := by kernel_rfl
theorem tab_b39 : (Tryd.prog.info? 39).map (fun x => (x.zero, x.size, x.bytes)) = some (some ti39.zero, ti39.size, ti39.bytes) := by kernel_rfl
theorem tab_a38 : Tryd.prog.underlying 38 = some ti38.d := by kernel_rfl
theorem tab_b38 : (Tryd.prog.info? 38).map (fun x => (x.zero, x.size, x.bytes)) = some (some ti38.zero, ti38.size, ti38.bytes) := by kernel_rfl
theorem tab_a37 : Tryd.prog.underlying 37 = some ti37.d := by kernel_rfl
theorem tab_b37 : (Tryd.prog.info? 37).map (fun x => (x.zero, x.size, x.bytes)) = some (some ti37.zero, ti37.size, ti37.bytes) := by kernel_rfl
theorem tab_a36 : Tryd.prog.underlying 36 = some ti36.d := by kernel_rfl
theorem tab_b36 : (Tryd.prog.info? 36).map (fun x => (x.zero, x.size, x.bytes)) = some (some ti36.zero, ti36.size, ti36.bytes) := by kernel_rfl
theorem tab_a35 : Tryd.prog.underlying 35 = some ti35.d := by kernel_rfl
theorem tab_b35 : (Tryd.prog.info? 35).map (fun x => (x.zero, x.size, x.bytes)) = some (some ti35.zero, ti35.size, ti35.bytes) := by kernel_rfl
theorem tab_a34 : Tryd.prog.underlying 34 = some ti34.d := by kernel_rfl
theorem tab_b34 : (Tryd.prog.info? 34).map (fun x => (x.zero, x.size, x.bytes)) = some (some ti34.zero, ti34.size, ti34.bytes) := by kernel_rfl
theorem tab_a33 : Tryd.prog.underlying 33 = some ti33.d := by kernel_rfl
theorem tab_b33 : (Tryd.prog.info? 33).map (fun x => (x.zero, x.size, x.bytes)) = some (some ti33.zero, ti33.size, ti33.bytes) := by kernel_rfl
theorem tab_a32 : Tryd.prog.underlying 32 = some ti32.d := by kernel_rfl
theorem tab_b32 : (Tryd.prog.info? 32).map (fun x => (x.zero, x.size, x.bytes)) = some (some ti32.zero, ti32.size, ti32.bytes) := by kernel_rfl
theorem tab_a31 : Tryd.prog.underlying 31 = some ti31.d := by kernel_rfl
theorem tab_b31 : (Tryd.prog.info? 31).map (fun x => (x.zero, x.size, x.bytes)) = some (some ti31.zero, ti31.size, ti31.bytes) := by kernel_rfl
theorem tab_a30 : Tryd.prog.underlying 30 = some ti30.d := by kernel_rfl
theorem tab_b30 : (Tryd.prog.info? 30).map (fun x => (x.zero, x.size, x.bytes)) = some (some ti30.zero, ti30.size, ti30.bytes) := by kernel_rfl
theorem tab_a29 : Tryd.prog.underlying 29 = some ti29.d := by kernel_rfl
theorem tab_b29 : (Tryd.prog.info? 29).map (fun x => (x.zero, x.size, x.bytes)) = some (some ti29.zero, ti29.size, ti29.bytes) := by kernel_rfl
theorem tab_a28 : Tryd.prog.underlying 28 = some ti28.d := by kernel_rfl
theorem tab_b28 : (Tryd.prog.info? 28).map (fun x => (x.zero, x.size, x.bytes)) = some (some ti28.zero, ti28.size, ti28.bytes) := by kernel_rfl
theorem tab_a27 : Tryd.prog.underlying 27 = some ti27.d := by kernel_rfl
theorem tab_b27 : (Tryd.prog.info? 27).map (fun x => (x.zero, x.size, x.bytes)) = some (some ti27.zero, ti27.size, ti27.bytes) := by kernel_rfl
theorem tab_a26 : Tryd.prog.underlying 26 = some ti26.d := by kernel_rfl
theorem tab_b26 : (Tryd.prog.info? 26).map (fun x => (x.zero, x.size, x.bytes)) = some (some ti26.zero, ti26.size, ti26.bytes) := by kernel_rfl
theorem tab_a25 : Tryd.prog.underlying 25 = some ti25.d := by kernel_rfl
theorem tab_b25 : (Tryd.prog.info? 25).map (fun x => (x.zero, x.size, x.bytes)) = some (some ti25.zero, ti25.size, ti25.bytes) := by kernel_rfl
theorem tab_a24 : Tryd.prog.underlying 24 = some ti24.d := by kernel_rfl
theorem tab_b24 : (Tryd.prog.info? 24).map (fun x => (x.zero, x.size, x.bytes)) = some (some ti24.zero, ti24.size, ti24.bytes) := by kernel_rfl
theorem tab_a23 : Tryd.prog.underlying 23 = some ti23.d := by kernel_rfl
theorem tab_b23 : (Tryd.prog.info? 23).map (fun x => (x.zero, x.size, x.bytes)) = some (some ti23.zero, ti23.size, ti23.bytes) := by kernel_rfl
theorem tab_a22 : Tryd.prog.underlying 22 = some ti22.d := by kernel_rfl
theorem tab_b22 : (Tryd.prog.info? 22).map (fun x => (x.zero, x.size, x.bytes)) = some (some ti22.zero, ti22.size, ti22.bytes) := by kernel_rfl
theorem tab_a21 : Tryd.prog.underlying 21 = some ti21.d := by kernel_rfl
theorem tab_b21 : (Tryd.prog.info? 21).map (fun x => (x.zero, x.size, x.bytes)) = some (some ti21.zero, ti21.size, ti21.bytes) := by kernel_rfl
theorem tab_a19 : Tryd.prog.underlying 19 = some ti19.d := by kernel_rfl
theorem tab_b19 : (Tryd.prog.info? 19).map (fun x => (x.zero, x.size, x.bytes)) = some (some ti19.zero, ti19.size, ti19.bytes) := by kernel_rfl
theorem tab_a13 : Tryd.prog.underlying 13 = some ti13.d := by kernel_rfl
theorem tab_b13 : (Tryd.prog.info? 13).map (fun x => (x.zero, x.size, x.bytes)) = some (some ti13.zero, ti13.size, ti13.bytes) := by kernel_rfl
theorem tab_a12 : Tryd.prog.underlying 12 = some ti12.d := by kernel_rfl
theorem tab_b12 : (Tryd.prog.info? 12).map (fun x => (x.zero, x.size, x.bytes)) = some (some ti12.zero, ti12.size, ti12.bytes) := by kernel_rfl
theorem tab_a9 : Tryd.prog.underlying 9 = some ti9.d := by kernel_rfl
theorem tab_b9 : (Tryd.prog.info? 9).map (fun x => (x.zero, x.size, x.bytes)) = some (some ti9.zero, ti9.size, ti9.bytes) := by kernel_rfl
theorem tab_a5 : Tryd.prog.underlying 5 = some ti5.d := by kernel_rfl
theorem tab_b5 : (Tryd.prog.info? 5).map (fun x => (x.zero, x.size, x.bytes)) = some (some ti5.zero, ti5.size, ti5.bytes) := by kernel_rfl
theorem tab_a4 : Tryd.prog.underlying 4 = some ti4.d := by kernel_rfl
theorem tab_b4 : (Tryd.prog.info? 4).map (fun x => (x.zero, x.size, x.bytes)) = some (some ti4.zero, ti4.size, ti4.bytes) := by kernel_rfl
theorem tab_a3 : Tryd.prog.underlying 3 = some ti3.d := by kernel_rfl
theorem tab_b3 : (Tryd.prog.info? 3).map (fun x => (x.zero, x.size, x.bytes)) = some (some ti3.zero, ti3.size, ti3.bytes) := by kernel_rfl
theorem tab_a2 : Tryd.prog.underlying 2 = some ti2.d := by kernel_rfl
theorem tab_b2 : (Tryd.prog.info? 2).map (fun x => (x.zero, x.size, x.bytes)) = some (some ti2.zero, ti2.size, ti2.bytes) := by kernel_rfl
theorem tab_a1 : Tryd.prog.underlying 1 = some ti1.d := by kernel_rfl
theorem tab_b1 : (Tryd.prog.info? 1).map (fun x => (x.zero, x.size, x.bytes)) = some (some ti1.zero, ti1.size, ti1.bytes) := by kernel_rfl
theorem tab_ok : tabOK Tryd.prog tab := tabOK_cons tab_a1 tab_b1 (tabOK_cons tab_a2 tab_b2 (tabOK_cons tab_a3 tab_b3 (tabOK_cons tab_a4 tab_b4 (tabOK_cons tab_a5 tab_b5 (tabOK_cons tab_a9 tab_b9 (tabOK_cons tab_a12 tab_b12 (tabOK_cons tab_a13 tab_b13 (tabOK_cons tab_a19 tab_b19 (tabOK_cons tab_a21 tab_b21 (tabOK_cons tab_a22 tab_b22 (tabOK_cons tab_a23 tab_b23 (tabOK_cons tab_a24 tab_b24 (tabOK_cons tab_a25 tab_b25 (tabOK_cons tab_a26 tab_b26 (tabOK_cons tab_a27 tab_b27 (tabOK_cons tab_a28 tab_b28 (tabOK_cons tab_a29 tab_b29 (tabOK_cons tab_a30 tab_b30 (tabOK_cons tab_a31 tab_b31 (tabOK_cons tab_a32 tab_b32 (tabOK_cons tab_a33 tab_b33 (tabOK_cons tab_a34 tab_b34 (tabOK_cons tab_a35 tab_b35 (tabOK_cons tab_a36 tab_b36 (tabOK_cons tab_a37 tab_b37 (tabOK_cons tab_a38 tab_b38 (tabOK_cons tab_a39 tab_b39 (tabOK_cons tab_a40 tab_b40 (tabOK_cons tab_a41 tab_b41 (tabOK_cons tab_a42 tab_b42 (tabOK_cons tab_a43 tab_b43 (tabOK_cons tab_a44 tab_b44 (tabOK_cons tab_a45 tab_b45 (tabOK_cons tab_a46 tab_b46 (tabOK_cons tab_a47 tab_b47 (tabOK_cons tab_a48 tab_b48 (tabOK_cons tab_a49 tab_b49 (tabOK_cons tab_a50 tab_b50 (tabOK_cons tab_a51 tab_b51 (tabOK_cons tab_a52 tab_b52 (tabOK_cons tab_a54 tab_b54 (tabOK_cons tab_a55 tab_b55 (tabOK_cons tab_a56 tab_b56 (tabOK_cons tab_a57 tab_b57 (tabOK_cons tab_a58 tab_b58 (tabOK_cons tab_a60 tab_b60 (tabOK_cons tab_a62 tab_b62 (tabOK_cons tab_a63 tab_b63 (tabOK_cons tab_a64 tab_b64 (tabOK_cons tab_a65 tab_b65 (tabOK_cons tab_a66 tab_b66 (tabOK_cons tab_a67 tab_b67 (tabOK_cons tab_a68 tab_b68 (tabOK_cons tab_a69 tab_b69 (tabOK_cons tab_a70 tab_b70 (tabOK_cons tab_a72 tab_b72 (tabOK_cons tab_a74 tab_b74 (tabOK_cons tab_a75 tab_b75 (tabOK_cons tab_a76 tab_b76 (tabOK_cons tab_a77 tab_b77 (tabOK_cons tab_a78 tab_b78 (tabOK_cons tab_a79 tab_b79 (tabOK_cons tab_a80 tab_b80 (tabOK_cons tab_a81 tab_b81 (tabOK_cons tab_a82 tab_b82 (tabOK_cons tab_a83 tab_b83 (tabOK_cons tab_a84 tab_b84 (tabOK_cons tab_a85 tab_b85 (tabOK_cons tab_a86 tab_b86 (tabOK_cons tab_a87 tab_b87 (tabOK_cons tab_a88 tab_b88 (tabOK_cons tab_a89 tab_b89 (tabOK_cons tab_a90 tab_b90 (tabOK_cons tab_a91 tab_b91 (tabOK_cons tab_a92 tab_b92 (tabOK_cons tab_a93 tab_b93 (tabOK_cons tab_a95 tab_b95 (tabOK_cons tab_a97 tab_b97 (tabOK_cons tab_a99 tab_b99 (tabOK_cons tab_a100 tab_b100 (tabOK_cons tab_a101 tab_b101 (tabOK_cons tab_a105 tab_b105 (tabOK_cons tab_a109 tab_b109 (tabOK_cons tab_a110 tab_b110 (tabOK_cons tab_a111 tab_b111 (tabOK_cons tab_a112 tab_b112 (tabOK_cons tab_a114 tab_b114 (tabOK_cons tab_a115 tab_b115 (tabOK_cons tab_a116 tab_b116 (tabOK_cons tab_a117 tab_b117 (tabOK_cons tab_a118 tab_b118 (tabOK_cons tab_a119 tab_b119 (tabOK_cons tab_a120 tab_b120 (tabOK_cons tab_a121 tab_b121 (tabOK_cons tab_a122 tab_b122 (tabOK_cons tab_a124 tab_b124 (tabOK_cons tab_a125 tab_b125 (tabOK_cons tab_a126 tab_b126 (tabOK_cons tab_a127 tab_b127 (tabOK_cons tab_a133 tab_b133 (tabOK_cons tab_a136 tab_b136 (tabOK_nil _))))))))))))))))))))))))))))))))))))))))))))))))))))))))))))))))))))))))))))))))))))))))))))))))))))))
end Go.Proofs.YtpfanhbkjajocaaDoor

/-
  math/bits.TrailingZeros64 and OnesCount64: their own text, walked. Own work.
-/
namespace Go.Proofs.YtpfanhbkjajocaaDoor
open Go.AM
set_option maxRecDepth 100000

/-- The table of math/bits as its initialiser lays it. -/
def TabAt (w : World) : Prop := ∀ j, j < 64 → w.cell? ⟨0, j, none⟩ = some (.int .u8 ((Go.Lib.deBruijn64tab.getD j 0 : Nat) : Int))

theorem TabAt.agree {S : Nat → Prop} {w w' : World} (h : TabAt w) (hA : Agree S w w') (hS : ¬ S 0) : TabAt w' := fun j hj => hA.cell (h j hj) hS

def tzI (x : BitVec 64) : Int := if x = 0#64 then 64 else (tz x : Int)

theorem neg_un (x : BitVec 64) : IntKind.u64.wrap (0 - un x) = un (-x) := by
  have := sub_un 0#64 x
  rw [show un 0#64 - un x = 0 - un x by simp [un]] at this
  rw [this]; simp

theorem low_bit (x : BitVec 64) (h : x ≠ 0#64) : x &&& -x = 1#64 <<< tz x := by
  have h0 : x.toNat ≠ 0 := fun e => h (BitVec.eq_of_toNat_eq (by simpa using e))
  obtain ⟨h1, h2⟩ := Go.Lib.lowest_bit 64 x.toNat h0 x.isLt
  have hk := tz_lt x h
  apply BitVec.eq_of_toNat_eq
  rw [BitVec.toNat_and, BitVec.toNat_neg, BitVec.toNat_shiftLeft]
  have h3 : (1#64).toNat = 1 := rfl
  rw [h3, Nat.shiftLeft_eq, Nat.one_mul, Nat.mod_eq_of_lt (show 2 ^ 64 - x.toNat < 2 ^ 64 by omega), h1]
  show 2 ^ tz x = _
  rw [Nat.mod_eq_of_lt (Nat.pow_lt_pow_right (by decide) hk)]

theorem tz_key (x : BitVec 64) (h : x ≠ 0#64) : ∃ idx : Nat, idx < 64 ∧ Go.Lib.deBruijn64tab.getD idx 0 = tz x ∧
    shrI .u64 (IntKind.u64.wrap (band .u64 (un x) (IntKind.u64.wrap (0 - un x)) * 285870213051353865)) 58 = (idx : Int) := by
  have hk := tz_lt x h
  obtain ⟨hi, htab⟩ := Go.Lib.deBruijn64_at (tz x) hk
  refine ⟨_, hi, htab, ?_⟩
  rw [neg_un, band_un, low_bit x h, show (285870213051353865 : Int) = un 285870213051353865#64 from rfl, mul_un, shr_un]
  unfold un
  rw [BitVec.toNat_ushiftRight, Nat.shiftRight_eq_div_pow, BitVec.toNat_mul, BitVec.toNat_shiftLeft, Nat.shiftLeft_eq]
  simp only [BitVec.toNat_ofNat, Nat.reducePow, Nat.reduceMod, Nat.one_mul, show Int.toNat 58 = 58 from rfl]
  have e : 2 ^ tz x % 18446744073709551616 = 2 ^ tz x := Nat.mod_eq_of_lt (by have := Nat.pow_lt_pow_right (a := 2) (by decide) hk; simpa using this)
  rw [e]

theorem tz_ok0 (w : World) : Gives Tryd.prog 62 [.int .u64 (un 0#64)] w (.int .i64 64) := by
  refine Gives.of_run Tryd.func62 rfl (by show 1 ≤ 14; decide) ?_
  refine RunF_sound tab_ok noX_local 100 [true] _ _ rfl ?_ ?_
  · simp [un]
  · exact Run.retP tab_ok Tryd.func62 rfl trivial (fun M => rfl)

theorem addr_idx (idx : Nat) : (⟨0, 0, none⟩ : Addr).add ((idx : Int).toNat * 1) = ⟨0, idx, none⟩ := by rw [add_lit']; simp

theorem tz_okp (y : Int) (idx : Nat) (k : Nat) (hy : y ≠ 0) (hi : idx < 64) (hk : k < 64) (w : World) (hc : w.cell? ⟨0, idx, none⟩ = some (.int .u8 (k : Int)))
    (key : shrI .u64 (IntKind.u64.wrap (band .u64 y (IntKind.u64.wrap (0 - y)) * 285870213051353865)) 58 = (idx : Int)) :
    Gives Tryd.prog 62 [.int .u64 y] w (.int .i64 (k : Int)) := by
  refine Gives.of_run Tryd.func62 rfl (by show 1 ≤ 14; decide) ?_
  refine RunF_sound tab_ok noX_local 100 [false] _ _ rfl ?_ ?_
  · rw [key, addr_idx, fnC_w0, hc]
    simp [hy]
    omega
  · rw [key, addr_idx, fnC_w0, hc]
    refine Run.retP tab_ok Tryd.func62 rfl trivial (fun M => ?_)
    simp only []
    rw [wrap_i64 (by omega) (by omega)]
    rfl

theorem tz_ok (x : BitVec 64) (w : World) (hT : TabAt w) : Gives Tryd.prog 62 [.int .u64 (un x)] w (.int .i64 (tzI x)) := by
  by_cases h : x = 0#64
  · subst h
    exact tz_ok0 w
  · obtain ⟨idx, hi, htab, key⟩ := tz_key x h
    have hc := hT idx hi
    rw [htab] at hc
    have := tz_okp (un x) idx (tz x) (by simpa using h) hi (tz_lt x h) w hc key
    rw [tzI, if_neg h]; exact this
theorem tz_enters : Enters Tryd.prog 62 := enters_mk Tryd.func62 (by decide) rfl

/-- What OnesCount64 reckons. -/
def onesW (x : BitVec 64) : BitVec 64 :=
  let a := (x >>> 1 &&& 6148914691236517205#64) + (x &&& 6148914691236517205#64)
  let b := (a >>> 2 &&& 3689348814741910323#64) + (a &&& 3689348814741910323#64)
  let c := (b >>> 4 + b) &&& 1085102592571150095#64
  let y := c + c >>> 8
  let z := y + y >>> 16
  z + z >>> 32

theorem onesW_pop (x : BitVec 64) : (onesW x).toNat % 128 = (bitsL x).length := by
  rw [← pop_bits, ← pop_swar x.toNat x.isLt]
  unfold onesW
  simp only [BitVec.toNat_add, BitVec.toNat_and, BitVec.toNat_ushiftRight, Nat.shiftRight_eq_div_pow, BitVec.toNat_ofNat, Nat.reducePow, Nat.reduceMod]

theorem band127 (z : BitVec 64) : band .i64 (IntKind.i64.wrap (un z)) 127 = ((z.toNat % 128 : Nat) : Int) := by
  have e1 : BitVec.ofInt 64 (IntKind.i64.wrap (un z)) = z := by
    apply BitVec.eq_of_toNat_eq
    have := z.isLt
    rw [BitVec.toNat_ofInt]
    simp only [IntKind.wrap, IntKind.bits, IntKind.signed, un]
    simp
    omega
  show IntKind.i64.wrap ((BitVec.ofInt 64 (IntKind.i64.wrap (un z)) &&& BitVec.ofInt 64 127).toNat : Int) = _
  rw [e1, BitVec.toNat_and, show (BitVec.ofInt 64 127).toNat = 2 ^ 7 - 1 from rfl, Nat.and_two_pow_sub_one_eq_mod]
  have := Nat.mod_lt z.toNat (show 0 < 2 ^ 7 by decide)
  simp only [Nat.reducePow] at this ⊢
  rw [wrap_i64] <;> omega

theorem ones_ok (x : BitVec 64) (w : World) : Gives Tryd.prog 61 [.int .u64 (un x)] w (.int .i64 ((bitsL x).length : Int)) := by
  refine Gives.of_run Tryd.func61 rfl (by show 1 ≤ 35; decide) ?_
  refine RunF_sound tab_ok noX_local 100 [] _ _ rfl ?_ ?_
  · simp
  · refine Run.retP tab_ok Tryd.func61 rfl trivial (fun M => ?_)
    show Value.int _ _ = _
    congr 1
    have c1 : (6148914691236517205 : Int) = un 6148914691236517205#64 := rfl
    have c2 : (3689348814741910323 : Int) = un 3689348814741910323#64 := rfl
    have c3 : (1085102592571150095 : Int) = un 1085102592571150095#64 := rfl
    rw [c1, c2, c3]
    simp only [shr_un, band_un, add_un]
    rw [← onesW_pop]
    exact band127 (onesW x)
theorem ones_enters : Enters Tryd.prog 61 := enters_mk Tryd.func61 (by decide) rfl
end Go.Proofs.YtpfanhbkjajocaaDoor
