/-
  Own work, merged: Tab, K2, K3, K4, K5, K6, K7, LPOP.
-/
import Derived.AtR
import Derived.Below
import Derived.ChangeKeysEq
import Derived.KernelRfl
import Derived.Laws.AppendOwn
import Derived.Laws.BytesString
import Derived.Laws.Cells
import Derived.Laws.CopyRow
import Derived.Laws.Entries
import Derived.Laws.Externs
import Derived.Laws.Rows
import Derived.Laws.Small
import Derived.Laws.StructEq
import Derived.Maps.AppendAt
import Derived.Orders
import Derived.RangeFuncRecord
import Derived.Test.YtpfanhbkjajocaaDoorProg
import Derived.Test.YtpfanhbkjajocaaDoorQ3EEDB2
/- The table of this seat's types, as the program has them. Printed by a program of our own off the translation. -/
namespace Go.Proofs.YtpfanhbkjajocaaDoor
open Go.AM

def ti1 : TI := ⟨.func #[] #[] false, 1, 8, .nilFunc⟩
def ti2 : TI := ⟨.int .i64, 1, 8, (.int .i64 0)⟩
def ti3 : TI := ⟨.int .i64, 1, 8, (.int .i64 0)⟩
def ti4 : TI := ⟨.bool, 1, 1, (.bool false)⟩
def ti5 : TI := ⟨.int .u8, 1, 1, (.int .u8 0)⟩
def ti9 : TI := ⟨.string, 1, 16, (.string ⟨#[]⟩)⟩
def ti12 : TI := ⟨.int .u64, 1, 8, (.int .u64 0)⟩
def z13 : List Value := [(.string ⟨#[]⟩)] ++ [(.int .u64 0)]
def ti13 : TI := ⟨.struct #[{ name := "msg", type := 9, offset := 0, embedded := false, tag := "", pkgPath := "runtime", byteOffset := 0 }, { name := "addr", type := 12, offset := 1, embedded := false, tag := "", pkgPath := "runtime", byteOffset := 16 }], 2, 24, .agg z13.toArray⟩
def z19 : List Value := [(.pointer none)]
def ti19 : TI := ⟨.struct #[{ name := "typ", type := 17, offset := 0, embedded := false, tag := "", pkgPath := "internal/runtime/maps", byteOffset := 0 }], 1, 8, .agg z19.toArray⟩
def ti21 : TI := ⟨.int .i32, 1, 4, (.int .i32 0)⟩
def ti22 : TI := ⟨.int .u64, 1, 8, (.int .u64 0)⟩
def ti23 : TI := ⟨.int .u64, 1, 8, (.int .u64 0)⟩
def ti24 : TI := ⟨.func #[23, 3] #[4] false, 1, 8, .nilFunc⟩
def ti25 : TI := ⟨.func #[22, 3] #[4] false, 1, 8, .nilFunc⟩
def ti26 : TI := ⟨.func #[23, 3] #[23] false, 1, 8, .nilFunc⟩
def ti27 : TI := ⟨.func #[22, 3] #[22] false, 1, 8, .nilFunc⟩
def ti28 : TI := ⟨.func #[23] #[3] false, 1, 8, .nilFunc⟩
def ti29 : TI := ⟨.func #[22] #[3] false, 1, 8, .nilFunc⟩
def ti30 : TI := ⟨.func #[23, 3] #[3] false, 1, 8, .nilFunc⟩
def ti31 : TI := ⟨.func #[22, 3] #[3] false, 1, 8, .nilFunc⟩
def ti32 : TI := ⟨.func #[3] #[23] false, 1, 8, .nilFunc⟩
def ti33 : TI := ⟨.func #[3] #[22] false, 1, 8, .nilFunc⟩
def ti34 : TI := ⟨.func #[81] #[] false, 1, 8, .nilFunc⟩
def ti35 : TI := ⟨.func #[81] #[] false, 1, 8, .nilFunc⟩
def ti36 : TI := ⟨.func #[23] #[35] false, 1, 8, .nilFunc⟩
def ti37 : TI := ⟨.slice 3, 1, 24, (.slice none 0 0)⟩
def ti38 : TI := ⟨.func #[22] #[37] false, 1, 8, .nilFunc⟩
def ti39 : TI := ⟨.func #[40, 43, 3] #[4] false, 1, 8, .nilFunc⟩
def ti40 : TI := ⟨.func #[52] #[] false, 1, 8, .nilFunc⟩
def ti41 : TI := ⟨.func #[52] #[] false, 1, 8, .nilFunc⟩
def ti42 : TI := ⟨.func #[23] #[41] false, 1, 8, .nilFunc⟩
def ti43 : TI := ⟨.slice 22, 1, 24, (.slice none 0 0)⟩
def ti44 : TI := ⟨.func #[22, 3] #[43] false, 1, 8, .nilFunc⟩
def ti45 : TI := ⟨.func #[23, 3] #[41] false, 1, 8, .nilFunc⟩
def ti46 : TI := ⟨.func #[22, 3, 3] #[43] false, 1, 8, .nilFunc⟩
def ti47 : TI := ⟨.func #[23, 3, 3, 3] #[4] false, 1, 8, .nilFunc⟩
def z48 : List Value := [(.slice none 0 0), (.slice none 0 0)]
def ti48 : TI := ⟨.struct #[{ name := "Cores", type := 43, offset := 0, embedded := false, tag := "", pkgPath := "", byteOffset := 0 }, { name := "Odd", type := 43, offset := 1, embedded := false, tag := "", pkgPath := "", byteOffset := 24 }], 2, 48, .agg z48.toArray⟩
def z49 : List Value := [(.slice none 0 0), (.slice none 0 0)]
def ti49 : TI := ⟨.struct #[{ name := "Cores", type := 43, offset := 0, embedded := false, tag := "", pkgPath := "", byteOffset := 0 }, { name := "Odd", type := 43, offset := 1, embedded := false, tag := "", pkgPath := "", byteOffset := 24 }], 2, 48, .agg z49.toArray⟩
def ti50 : TI := ⟨.func #[23, 52] #[41] false, 1, 8, .nilFunc⟩
def ti51 : TI := ⟨.func #[22] #[4] false, 1, 8, .nilFunc⟩
def ti52 : TI := ⟨.func #[23] #[4] false, 1, 8, .nilFunc⟩
def ti54 : TI := ⟨.func #[22, 49, 3] #[43, 43] false, 1, 8, .nilFunc⟩
def ti55 : TI := ⟨.func #[23, 49, 3] #[4] false, 1, 8, .nilFunc⟩
def ti56 : TI := ⟨.func #[2] #[9] false, 1, 8, .nilFunc⟩
def ti57 : TI := ⟨.func #[2] #[4] false, 1, 8, .nilFunc⟩
def ti58 : TI := ⟨.int .i64, 1, 8, (.int .i64 0)⟩
def ti60 : TI := ⟨.func #[37] #[23, 58] false, 1, 8, .nilFunc⟩
def ti62 : TI := ⟨.func #[37] #[22, 3] false, 1, 8, .nilFunc⟩
def ti63 : TI := ⟨.func #[23] #[37] false, 1, 8, .nilFunc⟩
def ti64 : TI := ⟨.func #[37, 37] #[4] false, 1, 8, .nilFunc⟩
def ti65 : TI := ⟨.func #[23] #[9] false, 1, 8, .nilFunc⟩
def ti66 : TI := ⟨.func #[22] #[9] false, 1, 8, .nilFunc⟩
def ti67 : TI := ⟨.func #[37, 23] #[4] false, 1, 8, .nilFunc⟩
def ti68 : TI := ⟨.func #[] #[4] false, 1, 8, .nilFunc⟩
def ti69 : TI := ⟨.func #[3] #[9] false, 1, 8, .nilFunc⟩
def z70 : List Value := [(.string ⟨#[]⟩), (.string ⟨#[]⟩), (.string ⟨#[]⟩), (.string ⟨#[]⟩), (.string ⟨#[]⟩), (.string ⟨#[]⟩)]
def ti70 : TI := ⟨.array 6 9, 6, 96, .agg z70.toArray⟩
def ti72 : TI := ⟨.func #[9] #[2, 58] false, 1, 8, .nilFunc⟩
def ti74 : TI := ⟨.func #[9, 3] #[2, 3, 58] false, 1, 8, .nilFunc⟩
def ti75 : TI := ⟨.func #[58] #[3] false, 1, 8, .nilFunc⟩
def ti76 : TI := ⟨.func #[2, 3] #[4] false, 1, 8, .nilFunc⟩
def ti77 : TI := ⟨.func #[9, 3] #[4] false, 1, 8, .nilFunc⟩
def ti78 : TI := ⟨.slice 2, 1, 24, (.slice none 0 0)⟩
def ti79 : TI := ⟨.func #[78, 9, 3] #[4] false, 1, 8, .nilFunc⟩
def ti80 : TI := ⟨.map 23 3, 1, 8, (.map none)⟩
def ti81 : TI := ⟨.func #[3] #[4] false, 1, 8, .nilFunc⟩
def ti82 : TI := ⟨.int .u64, 1, 8, (.int .u64 0)⟩
def ti83 : TI := ⟨.func #[22, 22] #[22] false, 1, 8, .nilFunc⟩
def ti84 : TI := ⟨.func #[37, 3] #[4] false, 1, 8, .nilFunc⟩
def ti85 : TI := ⟨.slice 23, 1, 24, (.slice none 0 0)⟩
def ti86 : TI := ⟨.func #[85, 23] #[4] false, 1, 8, .nilFunc⟩
def ti87 : TI := ⟨.func #[2, 3] #[9] false, 1, 8, .nilFunc⟩
def ti88 : TI := ⟨.func #[22, 22] #[9] false, 1, 8, .nilFunc⟩
def ti89 : TI := ⟨.func #[22, 3] #[9] false, 1, 8, .nilFunc⟩
def ti90 : TI := ⟨.slice 9, 1, 24, (.slice none 0 0)⟩
def ti91 : TI := ⟨.func #[90, 9] #[9] false, 1, 8, .nilFunc⟩
def ti92 : TI := ⟨.slice 5, 1, 24, (.slice none 0 0)⟩
def ti93 : TI := ⟨.func #[9] #[3] false, 1, 8, .nilFunc⟩
def ti95 : TI := ⟨.func #[9, 9] #[9, 4] false, 1, 8, .nilFunc⟩
def ti97 : TI := ⟨.func #[5, 22] #[22, 4] false, 1, 8, .nilFunc⟩
def ti99 : TI := ⟨.func #[22, 22] #[22, 22] false, 1, 8, .nilFunc⟩
def ti100 : TI := ⟨.func #[22, 22, 22] #[22, 22] false, 1, 8, .nilFunc⟩
def z101 : List Value := List.replicate 64 (.int .u8 0)
def ti101 : TI := ⟨.array 64 5, 64, 64, .agg z101.toArray⟩
def ti105 : TI := ⟨.func #[3] #[] false, 1, 8, .nilFunc⟩
def ti109 : TI := ⟨.func #[9] #[3, 107] false, 1, 8, .nilFunc⟩
def ti110 : TI := ⟨.func #[] #[9] false, 1, 8, .nilFunc⟩
def z111 : List Value := List.replicate 24 (.int .u8 0)
def ti111 : TI := ⟨.array 24 5, 24, 24, .agg z111.toArray⟩
def ti112 : TI := ⟨.func #[92, 22] #[] false, 1, 8, .nilFunc⟩
def ti114 : TI := ⟨.func #[92, 22, 3, 4, 4] #[92, 9] false, 1, 8, .nilFunc⟩
def ti115 : TI := ⟨.pointer 5, 1, 8, (.pointer none)⟩
def ti116 : TI := ⟨.func #[9, 9] #[4] false, 1, 8, .nilFunc⟩
def ti117 : TI := ⟨.func #[3] #[3] false, 1, 8, .nilFunc⟩
def ti118 : TI := ⟨.func #[4] #[3] false, 1, 8, .nilFunc⟩
def z119 : List Value := List.replicate 20 (.int .u64 0)
def ti119 : TI := ⟨.array 20 22, 20, 160, .agg z119.toArray⟩
def ti120 : TI := ⟨.int .u32, 1, 4, (.int .u32 0)⟩
def z121 : List Value := List.replicate 65 (.int .u8 0)
def ti121 : TI := ⟨.array 65 5, 65, 65, .agg z121.toArray⟩
def ti122 : TI := ⟨.func #[82] #[3] false, 1, 8, .nilFunc⟩
def ti124 : TI := ⟨.func #[123] #[123] false, 1, 8, .nilFunc⟩
def ti125 : TI := ⟨.func #[3] #[92] false, 1, 8, .nilFunc⟩
def ti126 : TI := ⟨.func #[120] #[3] false, 1, 8, .nilFunc⟩
def z127 : List Value := List.replicate 32 (.int .u8 0)
def ti127 : TI := ⟨.array 32 5, 32, 32, .agg z127.toArray⟩
def ti133 : TI := ⟨.func #[] #[3] false, 1, 8, .nilFunc⟩
def ti136 : TI := ⟨.func #[123, 123] #[4] false, 1, 8, .nilFunc⟩
def tab : Tab := [(1, ti1), (2, ti2), (3, ti3), (4, ti4), (5, ti5), (9, ti9), (12, ti12), (13, ti13), (19, ti19), (21, ti21), (22, ti22), (23, ti23), (24, ti24), (25, ti25), (26, ti26), (27, ti27), (28, ti28), (29, ti29), (30, ti30), (31, ti31), (32, ti32), (33, ti33), (34, ti34), (35, ti35), (36, ti36), (37, ti37), (38, ti38), (39, ti39), (40, ti40), (41, ti41), (42, ti42), (43, ti43), (44, ti44), (45, ti45), (46, ti46), (47, ti47), (48, ti48), (49, ti49), (50, ti50), (51, ti51), (52, ti52), (54, ti54), (55, ti55), (56, ti56), (57, ti57), (58, ti58), (60, ti60), (62, ti62), (63, ti63), (64, ti64), (65, ti65), (66, ti66), (67, ti67), (68, ti68), (69, ti69), (70, ti70), (72, ti72), (74, ti74), (75, ti75), (76, ti76), (77, ti77), (78, ti78), (79, ti79), (80, ti80), (81, ti81), (82, ti82), (83, ti83), (84, ti84), (85, ti85), (86, ti86), (87, ti87), (88, ti88), (89, ti89), (90, ti90), (91, ti91), (92, ti92), (93, ti93), (95, ti95), (97, ti97), (99, ti99), (100, ti100), (101, ti101), (105, ti105), (109, ti109), (110, ti110), (111, ti111), (112, ti112), (114, ti114), (115, ti115), (116, ti116), (117, ti117), (118, ti118), (119, ti119), (120, ti120), (121, ti121), (122, ti122), (124, ti124), (125, ti125), (126, ti126), (127, ti127), (133, ti133), (136, ti136)]
set_option maxRecDepth 100000
theorem tab_ok0 : tabOK Tryd.prog [] := tabOK_nil _
theorem tab_a136 : Tryd.prog.underlying 136 = some ti136.d := by kernel_rfl
theorem tab_b136 : (Tryd.prog.info? 136).map (fun x => (x.zero, x.size, x.bytes)) = some (some ti136.zero, ti136.size, ti136.bytes) := by kernel_rfl
theorem tab_a133 : Tryd.prog.underlying 133 = some ti133.d := by kernel_rfl
theorem tab_b133 : (Tryd.prog.info? 133).map (fun x => (x.zero, x.size, x.bytes)) = some (some ti133.zero, ti133.size, ti133.bytes) := by kernel_rfl
theorem tab_a127 : Tryd.prog.underlying 127 = some ti127.d := by kernel_rfl
theorem tab_b127 : (Tryd.prog.info? 127).map (fun x => (x.zero, x.size, x.bytes)) = some (some ti127.zero, ti127.size, ti127.bytes) := by kernel_rfl
theorem tab_a126 : Tryd.prog.underlying 126 = some ti126.d := by kernel_rfl
theorem tab_b126 : (Tryd.prog.info? 126).map (fun x => (x.zero, x.size, x.bytes)) = some (some ti126.zero, ti126.size, ti126.bytes) := by kernel_rfl
theorem tab_a125 : Tryd.prog.underlying 125 = some ti125.d := by kernel_rfl
theorem tab_b125 : (Tryd.prog.info? 125).map (fun x => (x.zero, x.size, x.bytes)) = some (some ti125.zero, ti125.size, ti125.bytes) := by kernel_rfl
theorem tab_a124 : Tryd.prog.underlying 124 = some ti124.d := by kernel_rfl
theorem tab_b124 : (Tryd.prog.info? 124).map (fun x => (x.zero, x.size, x.bytes)) = some (some ti124.zero, ti124.size, ti124.bytes) := by kernel_rfl
theorem tab_a122 : Tryd.prog.underlying 122 = some ti122.d := by kernel_rfl
theorem tab_b122 : (Tryd.prog.info? 122).map (fun x => (x.zero, x.size, x.bytes)) = some (some ti122.zero, ti122.size, ti122.bytes) := by kernel_rfl
theorem tab_a121 : Tryd.prog.underlying 121 = some ti121.d := by kernel_rfl
theorem tab_b121 : (Tryd.prog.info? 121).map (fun x => (x.zero, x.size, x.bytes)) = some (some ti121.zero, ti121.size, ti121.bytes) := by kernel_rfl
theorem tab_a120 : Tryd.prog.underlying 120 = some ti120.d := by kernel_rfl
theorem tab_b120 : (Tryd.prog.info? 120).map (fun x => (x.zero, x.size, x.bytes)) = some (some ti120.zero, ti120.size, ti120.bytes) := by kernel_rfl
theorem tab_a119 : Tryd.prog.underlying 119 = some ti119.d := by kernel_rfl
theorem tab_b119 : (Tryd.prog.info? 119).map (fun x => (x.zero, x.size, x.bytes)) = some (some ti119.zero, ti119.size, ti119.bytes) := by kernel_rfl
theorem tab_a118 : Tryd.prog.underlying 118 = some ti118.d := by kernel_rfl
theorem tab_b118 : (Tryd.prog.info? 118).map (fun x => (x.zero, x.size, x.bytes)) = some (some ti118.zero, ti118.size, ti118.bytes) := by kernel_rfl
theorem tab_a117 : Tryd.prog.underlying 117 = some ti117.d := by kernel_rfl
theorem tab_b117 : (Tryd.prog.info? 117).map (fun x => (x.zero, x.size, x.bytes)) = some (some ti117.zero, ti117.size, ti117.bytes) := by kernel_rfl
theorem tab_a116 : Tryd.prog.underlying 116 = some ti116.d := by kernel_rfl
theorem tab_b116 : (Tryd.prog.info? 116).map (fun x => (x.zero, x.size, x.bytes)) = some (some ti116.zero, ti116.size, ti116.bytes) := by kernel_rfl
theorem tab_a115 : Tryd.prog.underlying 115 = some ti115.d := by kernel_rfl
theorem tab_b115 : (Tryd.prog.info? 115).map (fun x => (x.zero, x.size, x.bytes)) = some (some ti115.zero, ti115.size, ti115.bytes) := by kernel_rfl
theorem tab_a114 : Tryd.prog.underlying 114 = some ti114.d := by kernel_rfl
theorem tab_b114 : (Tryd.prog.info? 114).map (fun x => (x.zero, x.size, x.bytes)) = some (some ti114.zero, ti114.size, ti114.bytes) := by kernel_rfl
theorem tab_a112 : Tryd.prog.underlying 112 = some ti112.d := by kernel_rfl
theorem tab_b112 : (Tryd.prog.info? 112).map (fun x => (x.zero, x.size, x.bytes)) = some (some ti112.zero, ti112.size, ti112.bytes) := by kernel_rfl
theorem tab_a111 : Tryd.prog.underlying 111 = some ti111.d := by kernel_rfl
theorem tab_b111 : (Tryd.prog.info? 111).map (fun x => (x.zero, x.size, x.bytes)) = some (some ti111.zero, ti111.size, ti111.bytes) := by kernel_rfl
theorem tab_a110 : Tryd.prog.underlying 110 = some ti110.d := by kernel_rfl
theorem tab_b110 : (Tryd.prog.info? 110).map (fun x => (x.zero, x.size, x.bytes)) = some (some ti110.zero, ti110.size, ti110.bytes) := by kernel_rfl
theorem tab_a109 : Tryd.prog.underlying 109 = some ti109.d := by kernel_rfl
theorem tab_b109 : (Tryd.prog.info? 109).map (fun x => (x.zero, x.size, x.bytes)) = some (some ti109.zero, ti109.size, ti109.bytes) := by kernel_rfl
theorem tab_a105 : Tryd.prog.underlying 105 = some ti105.d := by kernel_rfl
theorem tab_b105 : (Tryd.prog.info? 105).map (fun x => (x.zero, x.size, x.bytes)) = some (some ti105.zero, ti105.size, ti105.bytes) := by kernel_rfl
theorem tab_a101 : Tryd.prog.underlying 101 = some ti101.d := by kernel_rfl
theorem tab_b101 : (Tryd.prog.info? 101).map (fun x => (x.zero, x.size, x.bytes)) = some (some ti101.zero, ti101.size, ti101.bytes) := by kernel_rfl
theorem tab_a100 : Tryd.prog.underlying 100 = some ti100.d := by kernel_rfl
theorem tab_b100 : (Tryd.prog.info? 100).map (fun x => (x.zero, x.size, x.bytes)) = some (some ti100.zero, ti100.size, ti100.bytes) := by kernel_rfl
theorem tab_a99 : Tryd.prog.underlying 99 = some ti99.d := by kernel_rfl
theorem tab_b99 : (Tryd.prog.info? 99).map (fun x => (x.zero, x.size, x.bytes)) = some (some ti99.zero, ti99.size, ti99.bytes) := by kernel_rfl
theorem tab_a97 : Tryd.prog.underlying 97 = some ti97.d := by kernel_rfl
theorem tab_b97 : (Tryd.prog.info? 97).map (fun x => (x.zero, x.size, x.bytes)) = some (some ti97.zero, ti97.size, ti97.bytes) := by kernel_rfl
theorem tab_a95 : Tryd.prog.underlying 95 = some ti95.d := by kernel_rfl
theorem tab_b95 : (Tryd.prog.info? 95).map (fun x => (x.zero, x.size, x.bytes)) = some (some ti95.zero, ti95.size, ti95.bytes) := by kernel_rfl
theorem tab_a93 : Tryd.prog.underlying 93 = some ti93.d := by kernel_rfl
theorem tab_b93 : (Tryd.prog.info? 93).map (fun x => (x.zero, x.size, x.bytes)) = some (some ti93.zero, ti93.size, ti93.bytes) := by kernel_rfl
theorem tab_a92 : Tryd.prog.underlying 92 = some ti92.d := by kernel_rfl
theorem tab_b92 : (Tryd.prog.info? 92).map (fun x => (x.zero, x.size, x.bytes)) = some (some ti92.zero, ti92.size, ti92.bytes) := by kernel_rfl
theorem tab_a91 : Tryd.prog.underlying 91 = some ti91.d := by kernel_rfl
theorem tab_b91 : (Tryd.prog.info? 91).map (fun x => (x.zero, x.size, x.bytes)) = some (some ti91.zero, ti91.size, ti91.bytes) := by kernel_rfl
theorem tab_a90 : Tryd.prog.underlying 90 = some ti90.d := by kernel_rfl
theorem tab_b90 : (Tryd.prog.info? 90).map (fun x => (x.zero, x.size, x.bytes)) = some (some ti90.zero, ti90.size, ti90.bytes) := by kernel_rfl
theorem tab_a89 : Tryd.prog.underlying 89 = some ti89.d := by kernel_rfl
theorem tab_b89 : (Tryd.prog.info? 89).map (fun x => (x.zero, x.size, x.bytes)) = some (some ti89.zero, ti89.size, ti89.bytes) := by kernel_rfl
theorem tab_a88 : Tryd.prog.underlying 88 = some ti88.d := by kernel_rfl
theorem tab_b88 : (Tryd.prog.info? 88).map (fun x => (x.zero, x.size, x.bytes)) = some (some ti88.zero, ti88.size, ti88.bytes) := by kernel_rfl
theorem tab_a87 : Tryd.prog.underlying 87 = some ti87.d := by kernel_rfl
theorem tab_b87 : (Tryd.prog.info? 87).map (fun x => (x.zero, x.size, x.bytes)) = some (some ti87.zero, ti87.size, ti87.bytes) := by kernel_rfl
theorem tab_a86 : Tryd.prog.underlying 86 = some ti86.d := by kernel_rfl
theorem tab_b86 : (Tryd.prog.info? 86).map (fun x => (x.zero, x.size, x.bytes)) = some (some ti86.zero, ti86.size, ti86.bytes) := by kernel_rfl
theorem tab_a85 : Tryd.prog.underlying 85 = some ti85.d := by kernel_rfl
theorem tab_b85 : (Tryd.prog.info? 85).map (fun x => (x.zero, x.size, x.bytes)) = some (some ti85.zero, ti85.size, ti85.bytes) := by kernel_rfl
theorem tab_a84 : Tryd.prog.underlying 84 = some ti84.d := by kernel_rfl
theorem tab_b84 : (Tryd.prog.info? 84).map (fun x => (x.zero, x.size, x.bytes)) = some (some ti84.zero, ti84.size, ti84.bytes) := by kernel_rfl
theorem tab_a83 : Tryd.prog.underlying 83 = some ti83.d := by kernel_rfl
theorem tab_b83 : (Tryd.prog.info? 83).map (fun x => (x.zero, x.size, x.bytes)) = some (some ti83.zero, ti83.size, ti83.bytes) := by kernel_rfl
theorem tab_a82 : Tryd.prog.underlying 82 = some ti82.d := by kernel_rfl
theorem tab_b82 : (Tryd.prog.info? 82).map (fun x => (x.zero, x.size, x.bytes)) = some (some ti82.zero, ti82.size, ti82.bytes) := by kernel_rfl
theorem tab_a81 : Tryd.prog.underlying 81 = some ti81.d := by kernel_rfl
theorem tab_b81 : (Tryd.prog.info? 81).map (fun x => (x.zero, x.size, x.bytes)) = some (some ti81.zero, ti81.size, ti81.bytes) := by kernel_rfl
theorem tab_a80 : Tryd.prog.underlying 80 = some ti80.d := by kernel_rfl
theorem tab_b80 : (Tryd.prog.info? 80).map (fun x => (x.zero, x.size, x.bytes)) = some (some ti80.zero, ti80.size, ti80.bytes) := by kernel_rfl
theorem tab_a79 : Tryd.prog.underlying 79 = some ti79.d := by kernel_rfl
theorem tab_b79 : (Tryd.prog.info? 79).map (fun x => (x.zero, x.size, x.bytes)) = some (some ti79.zero, ti79.size, ti79.bytes) := by kernel_rfl
theorem tab_a78 : Tryd.prog.underlying 78 = some ti78.d := by kernel_rfl
theorem tab_b78 : (Tryd.prog.info? 78).map (fun x => (x.zero, x.size, x.bytes)) = some (some ti78.zero, ti78.size, ti78.bytes) := by kernel_rfl
theorem tab_a77 : Tryd.prog.underlying 77 = some ti77.d := by kernel_rfl
theorem tab_b77 : (Tryd.prog.info? 77).map (fun x => (x.zero, x.size, x.bytes)) = some (some ti77.zero, ti77.size, ti77.bytes) := by kernel_rfl
theorem tab_a76 : Tryd.prog.underlying 76 = some ti76.d := by kernel_rfl
theorem tab_b76 : (Tryd.prog.info? 76).map (fun x => (x.zero, x.size, x.bytes)) = some (some ti76.zero, ti76.size, ti76.bytes) := by kernel_rfl
theorem tab_a75 : Tryd.prog.underlying 75 = some ti75.d := by kernel_rfl
theorem tab_b75 : (Tryd.prog.info? 75).map (fun x => (x.zero, x.size, x.bytes)) = some (some ti75.zero, ti75.size, ti75.bytes) := by kernel_rfl
theorem tab_a74 : Tryd.prog.underlying 74 = some ti74.d := by kernel_rfl
theorem tab_b74 : (Tryd.prog.info? 74).map (fun x => (x.zero, x.size, x.bytes)) = some (some ti74.zero, ti74.size, ti74.bytes) := by kernel_rfl
theorem tab_a72 : Tryd.prog.underlying 72 = some ti72.d := by kernel_rfl
theorem tab_b72 : (Tryd.prog.info? 72).map (fun x => (x.zero, x.size, x.bytes)) = some (some ti72.zero, ti72.size, ti72.bytes) := by kernel_rfl
theorem tab_a70 : Tryd.prog.underlying 70 = some ti70.d := by kernel_rfl
theorem tab_b70 : (Tryd.prog.info? 70).map (fun x => (x.zero, x.size, x.bytes)) = some (some ti70.zero, ti70.size, ti70.bytes) := by kernel_rfl
theorem tab_a69 : Tryd.prog.underlying 69 = some ti69.d := by kernel_rfl
theorem tab_b69 : (Tryd.prog.info? 69).map (fun x => (x.zero, x.size, x.bytes)) = some (some ti69.zero, ti69.size, ti69.bytes) := by kernel_rfl
theorem tab_a68 : Tryd.prog.underlying 68 = some ti68.d := by kernel_rfl
theorem tab_b68 : (Tryd.prog.info? 68).map (fun x => (x.zero, x.size, x.bytes)) = some (some ti68.zero, ti68.size, ti68.bytes) := by kernel_rfl
theorem tab_a67 : Tryd.prog.underlying 67 = some ti67.d := by kernel_rfl
theorem tab_b67 : (Tryd.prog.info? 67).map (fun x => (x.zero, x.size, x.bytes)) = some (some ti67.zero, ti67.size, ti67.bytes) := by kernel_rfl
theorem tab_a66 : Tryd.prog.underlying 66 = some ti66.d := by kernel_rfl
theorem tab_b66 : (Tryd.prog.info? 66).map (fun x => (x.zero, x.size, x.bytes)) = some (some ti66.zero, ti66.size, ti66.bytes) := by kernel_rfl
theorem tab_a65 : Tryd.prog.underlying 65 = some ti65.d := by kernel_rfl
theorem tab_b65 : (Tryd.prog.info? 65).map (fun x => (x.zero, x.size, x.bytes)) = some (some ti65.zero, ti65.size, ti65.bytes) := by kernel_rfl
theorem tab_a64 : Tryd.prog.underlying 64 = some ti64.d := by kernel_rfl
theorem tab_b64 : (Tryd.prog.info? 64).map (fun x => (x.zero, x.size, x.bytes)) = some (some ti64.zero, ti64.size, ti64.bytes) := by kernel_rfl
theorem tab_a63 : Tryd.prog.underlying 63 = some ti63.d := by kernel_rfl
theorem tab_b63 : (Tryd.prog.info? 63).map (fun x => (x.zero, x.size, x.bytes)) = some (some ti63.zero, ti63.size, ti63.bytes) := by kernel_rfl
theorem tab_a62 : Tryd.prog.underlying 62 = some ti62.d := by kernel_rfl
theorem tab_b62 : (Tryd.prog.info? 62).map (fun x => (x.zero, x.size, x.bytes)) = some (some ti62.zero, ti62.size, ti62.bytes) := by kernel_rfl
theorem tab_a60 : Tryd.prog.underlying 60 = some ti60.d := by kernel_rfl
theorem tab_b60 : (Tryd.prog.info? 60).map (fun x => (x.zero, x.size, x.bytes)) = some (some ti60.zero, ti60.size, ti60.bytes) := by kernel_rfl
theorem tab_a58 : Tryd.prog.underlying 58 = some ti58.d := by kernel_rfl
theorem tab_b58 : (Tryd.prog.info? 58).map (fun x => (x.zero, x.size, x.bytes)) = some (some ti58.zero, ti58.size, ti58.bytes) := by kernel_rfl
theorem tab_a57 : Tryd.prog.underlying 57 = some ti57.d := by kernel_rfl
theorem tab_b57 : (Tryd.prog.info? 57).map (fun x => (x.zero, x.size, x.bytes)) = some (some ti57.zero, ti57.size, ti57.bytes) := by kernel_rfl
theorem tab_a56 : Tryd.prog.underlying 56 = some ti56.d := by kernel_rfl
theorem tab_b56 : (Tryd.prog.info? 56).map (fun x => (x.zero, x.size, x.bytes)) = some (some ti56.zero, ti56.size, ti56.bytes) := by kernel_rfl
theorem tab_a55 : Tryd.prog.underlying 55 = some ti55.d := by kernel_rfl
theorem tab_b55 : (Tryd.prog.info? 55).map (fun x => (x.zero, x.size, x.bytes)) = some (some ti55.zero, ti55.size, ti55.bytes) := by kernel_rfl
theorem tab_a54 : Tryd.prog.underlying 54 = some ti54.d := by kernel_rfl
theorem tab_b54 : (Tryd.prog.info? 54).map (fun x => (x.zero, x.size, x.bytes)) = some (some ti54.zero, ti54.size, ti54.bytes) := by kernel_rfl
theorem tab_a52 : Tryd.prog.underlying 52 = some ti52.d := by kernel_rfl
theorem tab_b52 : (Tryd.prog.info? 52).map (fun x => (x.zero, x.size, x.bytes)) = some (some ti52.zero, ti52.size, ti52.bytes) := by kernel_rfl
theorem tab_a51 : Tryd.prog.underlying 51 = some ti51.d := by kernel_rfl
theorem tab_b51 : (Tryd.prog.info? 51).map (fun x => (x.zero, x.size, x.bytes)) = some (some ti51.zero, ti51.size, ti51.bytes) := by kernel_rfl
theorem tab_a50 : Tryd.prog.underlying 50 = some ti50.d := by kernel_rfl
theorem tab_b50 : (Tryd.prog.info? 50).map (fun x => (x.zero, x.size, x.bytes)) = some (some ti50.zero, ti50.size, ti50.bytes) := by kernel_rfl
theorem tab_a49 : Tryd.prog.underlying 49 = some ti49.d := by kernel_rfl
theorem tab_b49 : (Tryd.prog.info? 49).map (fun x => (x.zero, x.size, x.bytes)) = some (some ti49.zero, ti49.size, ti49.bytes) := by kernel_rfl
theorem tab_a48 : Tryd.prog.underlying 48 = some ti48.d := by kernel_rfl
theorem tab_b48 : (Tryd.prog.info? 48).map (fun x => (x.zero, x.size, x.bytes)) = some (some ti48.zero, ti48.size, ti48.bytes) := by kernel_rfl
theorem tab_a47 : Tryd.prog.underlying 47 = some ti47.d := by kernel_rfl
theorem tab_b47 : (Tryd.prog.info? 47).map (fun x => (x.zero, x.size, x.bytes)) = some (some ti47.zero, ti47.size, ti47.bytes) := by kernel_rfl
theorem tab_a46 : Tryd.prog.underlying 46 = some ti46.d := by kernel_rfl
theorem tab_b46 : (Tryd.prog.info? 46).map (fun x => (x.zero, x.size, x.bytes)) = some (some ti46.zero, ti46.size, ti46.bytes) := by kernel_rfl
theorem tab_a45 : Tryd.prog.underlying 45 = some ti45.d := by kernel_rfl
theorem tab_b45 : (Tryd.prog.info? 45).map (fun x => (x.zero, x.size, x.bytes)) = some (some ti45.zero, ti45.size, ti45.bytes) := by kernel_rfl
theorem tab_a44 : Tryd.prog.underlying 44 = some ti44.d := by kernel_rfl
theorem tab_b44 : (Tryd.prog.info? 44).map (fun x => (x.zero, x.size, x.bytes)) = some (some ti44.zero, ti44.size, ti44.bytes) := by kernel_rfl
theorem tab_a43 : Tryd.prog.underlying 43 = some ti43.d := by kernel_rfl
theorem tab_b43 : (Tryd.prog.info? 43).map (fun x => (x.zero, x.size, x.bytes)) = some (some ti43.zero, ti43.size, ti43.bytes) := by kernel_rfl
theorem tab_a42 : Tryd.prog.underlying 42 = some ti42.d := by kernel_rfl
theorem tab_b42 : (Tryd.prog.info? 42).map (fun x => (x.zero, x.size, x.bytes)) = some (some ti42.zero, ti42.size, ti42.bytes) := by kernel_rfl
theorem tab_a41 : Tryd.prog.underlying 41 = some ti41.d := by kernel_rfl
theorem tab_b41 : (Tryd.prog.info? 41).map (fun x => (x.zero, x.size, x.bytes)) = some (some ti41.zero, ti41.size, ti41.bytes) := by kernel_rfl
theorem tab_a40 : Tryd.prog.underlying 40 = some ti40.d := by kernel_rfl
theorem tab_b40 : (Tryd.prog.info? 40).map (fun x => (x.zero, x.size, x.bytes)) = some (some ti40.zero, ti40.size, ti40.bytes) := by kernel_rfl
theorem tab_a39 : Tryd.prog.underlying 39 = some ti39.d := by kernel_rfl
theorem tab_b39 : (Tryd.prog.info? 39).map (fun x => (x.zero, x.size, x.bytes)) = some (some ti39.zero, ti39.size, ti39.bytes) := by kernel_rfl
theorem tab_a38 : Tryd.prog.underlying 38 = some ti38.d := by kernel_rfl
theorem tab_b38 : (Tryd.prog.info? 38).map (fun x => (x.zero, x.size, x.bytes)) = some (some ti38.zero, ti38.size, ti38.bytes) := by kernel_rfl
theorem tab_a37 : Tryd.prog.underlying 37 = some ti37.d := by kernel_rfl
theorem tab_b37 : (Tryd.prog.info? 37).map (fun x => (x.zero, x.size, x.bytes)) = some (some ti37.zero, ti37.size, ti37.bytes) := by kernel_rfl
theorem tab_a36 : Tryd.prog.underlying 36 = some ti36.d := by kernel_rfl
theorem tab_b36 : (Tryd.prog.info? 36).map (fun x => (x.zero, x.size, x.bytes)) = some (some ti36.zero, ti36.size, ti36.bytes) := by kernel_rfl
theorem tab_a35 : Tryd.prog.underlying 35 = some ti35.d := by kernel_rfl
theorem tab_b35 : (Tryd.prog.info? 35).map (fun x => (x.zero, x.size, x.bytes)) = some (some ti35.zero, ti35.size, ti35.bytes) := by kernel_rfl
theorem tab_a34 : Tryd.prog.underlying 34 = some ti34.d := by kernel_rfl
theorem tab_b34 : (Tryd.prog.info? 34).map (fun x => (x.zero, x.size, x.bytes)) = some (some ti34.zero, ti34.size, ti34.bytes) := by kernel_rfl
theorem tab_a33 : Tryd.prog.underlying 33 = some ti33.d := by kernel_rfl
theorem tab_b33 : (Tryd.prog.info? 33).map (fun x => (x.zero, x.size, x.bytes)) = some (some ti33.zero, ti33.size, ti33.bytes) := by kernel_rfl
theorem tab_a32 : Tryd.prog.underlying 32 = some ti32.d := by kernel_rfl
theorem tab_b32 : (Tryd.prog.info? 32).map (fun x => (x.zero, x.size, x.bytes)) = some (some ti32.zero, ti32.size, ti32.bytes) := by kernel_rfl
theorem tab_a31 : Tryd.prog.underlying 31 = some ti31.d := by kernel_rfl
theorem tab_b31 : (Tryd.prog.info? 31).map (fun x => (x.zero, x.size, x.bytes)) = some (some ti31.zero, ti31.size, ti31.bytes) := by kernel_rfl
theorem tab_a30 : Tryd.prog.underlying 30 = some ti30.d := by kernel_rfl
theorem tab_b30 : (Tryd.prog.info? 30).map (fun x => (x.zero, x.size, x.bytes)) = some (some ti30.zero, ti30.size, ti30.bytes) := by kernel_rfl
theorem tab_a29 : Tryd.prog.underlying 29 = some ti29.d := by kernel_rfl
theorem tab_b29 : (Tryd.prog.info? 29).map (fun x => (x.zero, x.size, x.bytes)) = some (some ti29.zero, ti29.size, ti29.bytes) := by kernel_rfl
theorem tab_a28 : Tryd.prog.underlying 28 = some ti28.d := by kernel_rfl
theorem tab_b28 : (Tryd.prog.info? 28).map (fun x => (x.zero, x.size, x.bytes)) = some (some ti28.zero, ti28.size, ti28.bytes) := by kernel_rfl
theorem tab_a27 : Tryd.prog.underlying 27 = some ti27.d := by kernel_rfl
theorem tab_b27 : (Tryd.prog.info? 27).map (fun x => (x.zero, x.size, x.bytes)) = some (some ti27.zero, ti27.size, ti27.bytes) := by kernel_rfl
theorem tab_a26 : Tryd.prog.underlying 26 = some ti26.d := by kernel_rfl
theorem tab_b26 : (Tryd.prog.info? 26).map (fun x => (x.zero, x.size, x.bytes)) = some (some ti26.zero, ti26.size, ti26.bytes) := by kernel_rfl
theorem tab_a25 : Tryd.prog.underlying 25 = some ti25.d := by kernel_rfl
theorem tab_b25 : (Tryd.prog.info? 25).map (fun x => (x.zero, x.size, x.bytes)) = some (some ti25.zero, ti25.size, ti25.bytes) := by kernel_rfl
theorem tab_a24 : Tryd.prog.underlying 24 = some ti24.d := by kernel_rfl
theorem tab_b24 : (Tryd.prog.info? 24).map (fun x => (x.zero, x.size, x.bytes)) = some (some ti24.zero, ti24.size, ti24.bytes) := by kernel_rfl
theorem tab_a23 : Tryd.prog.underlying 23 = some ti23.d := by kernel_rfl
theorem tab_b23 : (Tryd.prog.info? 23).map (fun x => (x.zero, x.size, x.bytes)) = some (some ti23.zero, ti23.size, ti23.bytes) := by kernel_rfl
theorem tab_a22 : Tryd.prog.underlying 22 = some ti22.d := by kernel_rfl
theorem tab_b22 : (Tryd.prog.info? 22).map (fun x => (x.zero, x.size, x.bytes)) = some (some ti22.zero, ti22.size, ti22.bytes) := by kernel_rfl
theorem tab_a21 : Tryd.prog.underlying 21 = some ti21.d := by kernel_rfl
theorem tab_b21 : (Tryd.prog.info? 21).map (fun x => (x.zero, x.size, x.bytes)) = some (some ti21.zero, ti21.size, ti21.bytes) := by kernel_rfl
theorem tab_a19 : Tryd.prog.underlying 19 = some ti19.d := by kernel_rfl
theorem tab_b19 : (Tryd.prog.info? 19).map (fun x => (x.zero, x.size, x.bytes)) = some (some ti19.zero, ti19.size, ti19.bytes) := by kernel_rfl
theorem tab_a13 : Tryd.prog.underlying 13 = some ti13.d := by kernel_rfl
theorem tab_b13 : (Tryd.prog.info? 13).map (fun x => (x.zero, x.size, x.bytes)) = some (some ti13.zero, ti13.size, ti13.bytes) := by kernel_rfl
theorem tab_a12 : Tryd.prog.underlying 12 = some ti12.d := by kernel_rfl
theorem tab_b12 : (Tryd.prog.info? 12).map (fun x => (x.zero, x.size, x.bytes)) = some (some ti12.zero, ti12.size, ti12.bytes) := by kernel_rfl
theorem tab_a9 : Tryd.prog.underlying 9 = some ti9.d := by kernel_rfl
theorem tab_b9 : (Tryd.prog.info? 9).map (fun x => (x.zero, x.size, x.bytes)) = some (some ti9.zero, ti9.size, ti9.bytes) := by kernel_rfl
theorem tab_a5 : Tryd.prog.underlying 5 = some ti5.d := by kernel_rfl
theorem tab_b5 : (Tryd.prog.info? 5).map (fun x => (x.zero, x.size, x.bytes)) = some (some ti5.zero, ti5.size, ti5.bytes) := by kernel_rfl
theorem tab_a4 : Tryd.prog.underlying 4 = some ti4.d := by kernel_rfl
theorem tab_b4 : (Tryd.prog.info? 4).map (fun x => (x.zero, x.size, x.bytes)) = some (some ti4.zero, ti4.size, ti4.bytes) := by kernel_rfl
theorem tab_a3 : Tryd.prog.underlying 3 = some ti3.d := by kernel_rfl
theorem tab_b3 : (Tryd.prog.info? 3).map (fun x => (x.zero, x.size, x.bytes)) = some (some ti3.zero, ti3.size, ti3.bytes) := by kernel_rfl
theorem tab_a2 : Tryd.prog.underlying 2 = some ti2.d := by kernel_rfl
theorem tab_b2 : (Tryd.prog.info? 2).map (fun x => (x.zero, x.size, x.bytes)) = some (some ti2.zero, ti2.size, ti2.bytes) := by kernel_rfl
theorem tab_a1 : Tryd.prog.underlying 1 = some ti1.d := by kernel_rfl
theorem tab_b1 : (Tryd.prog.info? 1).map (fun x => (x.zero, x.size, x.bytes)) = some (some ti1.zero, ti1.size, ti1.bytes) := by kernel_rfl
theorem tab_ok : tabOK Tryd.prog tab := tabOK_cons tab_a1 tab_b1 (tabOK_cons tab_a2 tab_b2 (tabOK_cons tab_a3 tab_b3 (tabOK_cons tab_a4 tab_b4 (tabOK_cons tab_a5 tab_b5 (tabOK_cons tab_a9 tab_b9 (tabOK_cons tab_a12 tab_b12 (tabOK_cons tab_a13 tab_b13 (tabOK_cons tab_a19 tab_b19 (tabOK_cons tab_a21 tab_b21 (tabOK_cons tab_a22 tab_b22 (tabOK_cons tab_a23 tab_b23 (tabOK_cons tab_a24 tab_b24 (tabOK_cons tab_a25 tab_b25 (tabOK_cons tab_a26 tab_b26 (tabOK_cons tab_a27 tab_b27 (tabOK_cons tab_a28 tab_b28 (tabOK_cons tab_a29 tab_b29 (tabOK_cons tab_a30 tab_b30 (tabOK_cons tab_a31 tab_b31 (tabOK_cons tab_a32 tab_b32 (tabOK_cons tab_a33 tab_b33 (tabOK_cons tab_a34 tab_b34 (tabOK_cons tab_a35 tab_b35 (tabOK_cons tab_a36 tab_b36 (tabOK_cons tab_a37 tab_b37 (tabOK_cons tab_a38 tab_b38 (tabOK_cons tab_a39 tab_b39 (tabOK_cons tab_a40 tab_b40 (tabOK_cons tab_a41 tab_b41 (tabOK_cons tab_a42 tab_b42 (tabOK_cons tab_a43 tab_b43 (tabOK_cons tab_a44 tab_b44 (tabOK_cons tab_a45 tab_b45 (tabOK_cons tab_a46 tab_b46 (tabOK_cons tab_a47 tab_b47 (tabOK_cons tab_a48 tab_b48 (tabOK_cons tab_a49 tab_b49 (tabOK_cons tab_a50 tab_b50 (tabOK_cons tab_a51 tab_b51 (tabOK_cons tab_a52 tab_b52 (tabOK_cons tab_a54 tab_b54 (tabOK_cons tab_a55 tab_b55 (tabOK_cons tab_a56 tab_b56 (tabOK_cons tab_a57 tab_b57 (tabOK_cons tab_a58 tab_b58 (tabOK_cons tab_a60 tab_b60 (tabOK_cons tab_a62 tab_b62 (tabOK_cons tab_a63 tab_b63 (tabOK_cons tab_a64 tab_b64 (tabOK_cons tab_a65 tab_b65 (tabOK_cons tab_a66 tab_b66 (tabOK_cons tab_a67 tab_b67 (tabOK_cons tab_a68 tab_b68 (tabOK_cons tab_a69 tab_b69 (tabOK_cons tab_a70 tab_b70 (tabOK_cons tab_a72 tab_b72 (tabOK_cons tab_a74 tab_b74 (tabOK_cons tab_a75 tab_b75 (tabOK_cons tab_a76 tab_b76 (tabOK_cons tab_a77 tab_b77 (tabOK_cons tab_a78 tab_b78 (tabOK_cons tab_a79 tab_b79 (tabOK_cons tab_a80 tab_b80 (tabOK_cons tab_a81 tab_b81 (tabOK_cons tab_a82 tab_b82 (tabOK_cons tab_a83 tab_b83 (tabOK_cons tab_a84 tab_b84 (tabOK_cons tab_a85 tab_b85 (tabOK_cons tab_a86 tab_b86 (tabOK_cons tab_a87 tab_b87 (tabOK_cons tab_a88 tab_b88 (tabOK_cons tab_a89 tab_b89 (tabOK_cons tab_a90 tab_b90 (tabOK_cons tab_a91 tab_b91 (tabOK_cons tab_a92 tab_b92 (tabOK_cons tab_a93 tab_b93 (tabOK_cons tab_a95 tab_b95 (tabOK_cons tab_a97 tab_b97 (tabOK_cons tab_a99 tab_b99 (tabOK_cons tab_a100 tab_b100 (tabOK_cons tab_a101 tab_b101 (tabOK_cons tab_a105 tab_b105 (tabOK_cons tab_a109 tab_b109 (tabOK_cons tab_a110 tab_b110 (tabOK_cons tab_a111 tab_b111 (tabOK_cons tab_a112 tab_b112 (tabOK_cons tab_a114 tab_b114 (tabOK_cons tab_a115 tab_b115 (tabOK_cons tab_a116 tab_b116 (tabOK_cons tab_a117 tab_b117 (tabOK_cons tab_a118 tab_b118 (tabOK_cons tab_a119 tab_b119 (tabOK_cons tab_a120 tab_b120 (tabOK_cons tab_a121 tab_b121 (tabOK_cons tab_a122 tab_b122 (tabOK_cons tab_a124 tab_b124 (tabOK_cons tab_a125 tab_b125 (tabOK_cons tab_a126 tab_b126 (tabOK_cons tab_a127 tab_b127 (tabOK_cons tab_a133 tab_b133 (tabOK_cons tab_a136 tab_b136 (tabOK_nil _))))))))))))))))))))))))))))))))))))))))))))))))))))))))))))))))))))))))))))))))))))))))))))))))))))))
end Go.Proofs.YtpfanhbkjajocaaDoor

/-
  digit, CutPrefix, Mul64, Add64. Own work; the walks of digit printed by a program of our own.
-/
namespace Go.Proofs.YtpfanhbkjajocaaDoor
open Go.AM
set_option maxRecDepth 100000

theorem u8w {c : Int} (h0 : 0 ≤ c) (h1 : c < 256) : IntKind.u8.wrap c = c := by rw [wrap_u8]; omega

theorem digit_ok (c b : Int) (h0 : 0 ≤ c) (h1 : c < 256) (w : World) : Gives Tryd.prog 77 [.int .u8 c, .int .u64 b] w (.tuple #[.int .u64 (dv c), .bool (decide (dv c < b))]) := by
  refine Gives.of_run Tryd.func77 rfl (by show 2 ≤ 43; decide) ?_
  by_cases x0 : c < 48
  · have hv : dv c = 99 := by unfold dv; (repeat' split) <;> omega
    refine RunF_sound tab_ok noX_local 100 [false, false, false] _ _ rfl ?_ ?_
    · simp
      (repeat' refine And.intro ?_ ?_) <;> omega
    refine Run.retL tab_ok Tryd.func77 rfl trivial (fun M => ?_)
    simp [resAV, conc, concL, hv]
  by_cases x1 : c ≤ 57
  · have hv : dv c = c - 48 := by unfold dv; (repeat' split) <;> omega
    have hw : IntKind.u8.wrap (c - 48) = c - 48 := u8w (by omega) (by omega)
    have hw2 : IntKind.u64.wrap (c - 48) = c - 48 := by rw [wrap_u64] <;> omega
    refine RunF_sound tab_ok noX_local 100 [true, true] _ _ rfl ?_ ?_
    · simp
      (repeat' refine And.intro ?_ ?_) <;> omega
    refine Run.retL tab_ok Tryd.func77 rfl trivial (fun M => ?_)
    simp [resAV, conc, concL, hw, hw2, hv]
  by_cases x2 : c < 65
  · have hv : dv c = 99 := by unfold dv; (repeat' split) <;> omega
    refine RunF_sound tab_ok noX_local 100 [true, false, false, false] _ _ rfl ?_ ?_
    · simp
      (repeat' refine And.intro ?_ ?_) <;> omega
    refine Run.retL tab_ok Tryd.func77 rfl trivial (fun M => ?_)
    simp [resAV, conc, concL, hv]
  by_cases x3 : c ≤ 70
  · have hv : dv c = c - 65 + 10 := by unfold dv; (repeat' split) <;> omega
    have hw : IntKind.u8.wrap (c - 65) = c - 65 := u8w (by omega) (by omega)
    have hw2 : IntKind.u64.wrap (c - 65) = c - 65 := by rw [wrap_u64] <;> omega
    have hw3 : IntKind.u64.wrap (c - 65 + 10) = c - 65 + 10 := by rw [wrap_u64] <;> omega
    refine RunF_sound tab_ok noX_local 100 [true, false, false, true, true] _ _ rfl ?_ ?_
    · simp
      (repeat' refine And.intro ?_ ?_) <;> omega
    refine Run.retL tab_ok Tryd.func77 rfl trivial (fun M => ?_)
    simp [resAV, conc, concL, hw, hw2, hw3, hv]
  by_cases x4 : c < 97
  · have hv : dv c = 99 := by unfold dv; (repeat' split) <;> omega
    refine RunF_sound tab_ok noX_local 100 [true, false, false, true, false] _ _ rfl ?_ ?_
    · simp
      (repeat' refine And.intro ?_ ?_) <;> omega
    refine Run.retL tab_ok Tryd.func77 rfl trivial (fun M => ?_)
    simp [resAV, conc, concL, hv]
  by_cases x5 : c ≤ 102
  · have hv : dv c = c - 97 + 10 := by unfold dv; (repeat' split) <;> omega
    have hw : IntKind.u8.wrap (c - 97) = c - 97 := u8w (by omega) (by omega)
    have hw2 : IntKind.u64.wrap (c - 97) = c - 97 := by rw [wrap_u64] <;> omega
    have hw3 : IntKind.u64.wrap (c - 97 + 10) = c - 97 + 10 := by rw [wrap_u64] <;> omega
    refine RunF_sound tab_ok noX_local 100 [true, false, true, true] _ _ rfl ?_ ?_
    · simp
      (repeat' refine And.intro ?_ ?_) <;> omega
    refine Run.retL tab_ok Tryd.func77 rfl trivial (fun M => ?_)
    simp [resAV, conc, concL, hw, hw2, hw3, hv]
  have hv : dv c = 99 := by unfold dv; (repeat' split) <;> omega
  refine RunF_sound tab_ok noX_local 100 [true, false, true, false, true, false] _ _ rfl ?_ ?_
  · simp
    (repeat' refine And.intro ?_ ?_) <;> omega
  refine Run.retL tab_ok Tryd.func77 rfl trivial (fun M => ?_)
  simp [resAV, conc, concL, hv]
theorem digit_enters : Enters Tryd.prog 77 := enters_mk Tryd.func77 (by decide) rfl

/-- The sign. -/
def dash : ByteArray := ⟨#[45]⟩
def strt (s : ByteArray) : Bool := decide (0 < s.size) && decide (tk s 0 = 45)

theorem list1 (x : UInt8) : (ByteArray.mk #[x]).toList = [x] := by
  unfold ByteArray.toList
  rw [ByteArray.toList.loop]
  have : (ByteArray.mk #[x]).size = 1 := rfl
  simp [this]
  rw [ByteArray.toList.loop]
  simp [this]
  rfl

theorem cut1 (s : ByteArray) (h : 0 < s.size) : ((s.extract 0 1).toList == dash.toList) = decide (tk s 0 = 45) := by
  have e : s.extract 0 1 = ⟨#[s[0]]⟩ := by
    apply ByteArray.ext
    apply Array.ext
    · simp; omega
    · intro i h1 h2
      simp at h2
      subst h2
      simp [ByteArray.getElem_eq_getElem_data]
  rw [e]
  have ht : tk s 0 = ((s[0]).toNat : Int) := by
    unfold tk
    rw [show (0 : Int).toNat = 0 from rfl, getElem?_pos s 0 h]; rfl
  rw [ht, dash, list1, list1, Bool.eq_iff_iff, beq_iff_eq, decide_eq_true_eq, List.cons.injEq]
  constructor
  · rintro ⟨h2, _⟩
    rw [h2]; rfl
  · intro h2
    refine ⟨?_, rfl⟩
    apply UInt8.toNat_inj.1
    have : (s[0]).toNat = 45 := by omega
    rw [this]; rfl

theorem hasPrefix_ok (s : ByteArray) (hs : s.size ≤ maxLen) (w : World) : Gives Tryd.prog 93 [.string s, .string dash] w (.bool (strt s)) := by
  refine Gives.of_run Tryd.func93 rfl (by show 2 ≤ 18; decide) ?_
  have h1 : dash.size = 1 := rfl
  by_cases c : 0 < s.size
  · refine RunF_sound tab_ok noX_local 100 [true] _ _ rfl ?_ ?_
    · simp [h1]; omega
    refine Run.retP tab_ok Tryd.func93 rfl trivial (fun M => ?_)
    have := cut1 s c
    simp [resAV, conc, h1, strt, c, this]
  · refine RunF_sound tab_ok noX_local 100 [false] _ _ rfl ?_ ?_
    · simp [h1]; omega
    refine Run.retP tab_ok Tryd.func93 rfl trivial (fun M => ?_)
    simp [resAV, conc, strt, c]
theorem hasPrefix_enters : Enters Tryd.prog 93 := enters_mk Tryd.func93 (by decide) rfl

def restS (s : ByteArray) : ByteArray := if strt s then s.extract 1 s.size else s

theorem cutPrefix0_ok (s : ByteArray) (hs : s.size ≤ maxLen) (w : World) : Gives Tryd.prog 86 [.string s, .string dash] w (.tuple #[.string (restS s), .bool (strt s)]) := by
  refine Gives.of_run Tryd.func86 rfl (by show 2 ≤ 15; decide) ?_
  have h1 : dash.size = 1 := rfl
  refine RunF_sound tab_ok noX_local 100 [] _ _ rfl ?_ ?_
  · simp
  refine Run.callFn noX_local rfl rfl rfl rfl rfl rfl rfl hasPrefix_enters rfl (fun w' _ => hasPrefix_ok s hs w') ?_
  by_cases c : strt s = true
  · have c0 : 0 < s.size := by unfold strt at c; simp at c; exact c.1
    refine RunF_sound tab_ok noX_local 100 [false] _ _ rfl ?_ ?_
    · simp [h1, c]; omega
    refine Run.retL tab_ok Tryd.func86 rfl trivial (fun M => ?_)
    simp [resAV, conc, concL, h1, restS, c]
  · refine RunF_sound tab_ok noX_local 100 [true] _ _ rfl ?_ ?_
    · simp [c]
    refine Run.retL tab_ok Tryd.func86 rfl trivial (fun M => ?_)
    simp [resAV, conc, concL, restS, c]
theorem cutPrefix0_enters : Enters Tryd.prog 86 := enters_mk Tryd.func86 (by decide) rfl

theorem cutPrefix_ok (s : ByteArray) (hs : s.size ≤ maxLen) (w : World) : Gives Tryd.prog 76 [.string s, .string dash] w (.tuple #[.string (restS s), .bool (strt s)]) := by
  refine Gives.of_run Tryd.func76 rfl (by show 2 ≤ 11; decide) ?_
  refine RunF_sound tab_ok noX_local 100 [] _ _ rfl ?_ ?_
  · simp
  refine Run.callFn noX_local rfl rfl rfl rfl rfl rfl rfl cutPrefix0_enters rfl (fun w' _ => cutPrefix0_ok s hs w') ?_
  refine RunF_sound tab_ok noX_local 100 [] _ _ rfl ?_ ?_
  · simp
  exact Run.retL tab_ok Tryd.func76 rfl trivial (fun M => rfl)
theorem cutPrefix_enters : Enters Tryd.prog 76 := enters_mk Tryd.func76 (by decide) rfl

theorem mask32 {x : Int} (h0 : 0 ≤ x) (h1 : x < 18446744073709551616) : band .u64 x 4294967295 = x % 4294967296 := by
  obtain ⟨n, rfl⟩ := Int.eq_ofNat_of_zero_le h0
  have e : ((n : Nat) : Int) = un (BitVec.ofNat 64 n) := by unfold un; rw [BitVec.toNat_ofNat, Nat.mod_eq_of_lt (by omega)]
  have e2 : (4294967295 : Int) = un 4294967295#64 := rfl
  show band .u64 ((n : Nat) : Int) 4294967295 = ((n : Nat) : Int) % 4294967296
  rw [e, e2, band_un]
  unfold un
  rw [BitVec.toNat_and, BitVec.toNat_ofNat, Nat.mod_eq_of_lt (by omega), show (4294967295#64).toNat = 2 ^ 32 - 1 from rfl, Nat.and_two_pow_sub_one_eq_mod]
  omega
theorem shift32 {x : Int} (h0 : 0 ≤ x) : shrI .u64 x 32 = x / 4294967296 := by
  unfold shrI
  rw [show min (32 : Int).toNat (IntKind.u64).bits = 32 from rfl, Int.fdiv_eq_ediv_of_nonneg _ (by decide)]
  rfl
theorem u64w {x : Int} (h0 : 0 ≤ x) (h1 : x < 18446744073709551616) : IntKind.u64.wrap x = x := by rw [wrap_u64] <;> omega

theorem wrap_u64m (z : Int) : IntKind.u64.wrap z = z % 18446744073709551616 := by
  simp only [IntKind.wrap, IntKind.signed, IntKind.bits]
  simp

theorem mul64_ok (x b : Int) (h0 : 0 ≤ x) (h1 : x < 18446744073709551616) (hb : b = 10 ∨ b = 16) (w : World) :
    Gives Tryd.prog 78 [.int .u64 x, .int .u64 b] w (.tuple #[.int .u64 (x * b / 18446744073709551616), .int .u64 (x * b % 18446744073709551616)]) := by
  refine Gives.of_run Tryd.func78 rfl (by show 2 ≤ 51; decide) ?_
  have m1 := mask32 h0 h1
  have m2 := shift32 h0
  rcases hb with rfl | rfl
  · have c1 : shrI .u64 10 32 = 0 := by decide
    have c2 : band .u64 10 4294967295 = 10 := by decide
    refine RunF_sound tab_ok noX_local 100 [] _ _ rfl ?_ ?_
    · simp
    refine Run.retL tab_ok Tryd.func78 rfl trivial (fun M => ?_)
    simp only [resAV, conc, concL, c1, c2, m1, m2]
    have w1 : IntKind.u64.wrap (x % 4294967296 * 10) = x % 4294967296 * 10 := u64w (by omega) (by omega)
    have w2 : IntKind.u64.wrap (x / 4294967296 * 10) = x / 4294967296 * 10 := u64w (by omega) (by omega)
    have s1 : shrI .u64 (x % 4294967296 * 10) 32 = x % 4294967296 * 10 / 4294967296 := shift32 (by omega)
    have w3 : IntKind.u64.wrap (x / 4294967296 * 10 + x % 4294967296 * 10 / 4294967296) = x / 4294967296 * 10 + x % 4294967296 * 10 / 4294967296 := u64w (by omega) (by omega)
    have s2 : shrI .u64 (x / 4294967296 * 10 + x % 4294967296 * 10 / 4294967296) 32 = (x / 4294967296 * 10 + x % 4294967296 * 10 / 4294967296) / 4294967296 := shift32 (by omega)
    have s3 : band .u64 (x / 4294967296 * 10 + x % 4294967296 * 10 / 4294967296) 4294967295 = (x / 4294967296 * 10 + x % 4294967296 * 10 / 4294967296) % 4294967296 := mask32 (by omega) (by omega)
    have w4 : IntKind.u64.wrap (x / 4294967296 * 0) = 0 := by rw [Int.mul_zero]; rfl
    have w5 : IntKind.u64.wrap (x % 4294967296 * 0) = 0 := by rw [Int.mul_zero]; rfl
    rw [w1, w2, s1, w3, s2, s3, w4, w5, Int.zero_add, Int.add_zero]
    have w6 : IntKind.u64.wrap ((x / 4294967296 * 10 + x % 4294967296 * 10 / 4294967296) / 4294967296) = (x / 4294967296 * 10 + x % 4294967296 * 10 / 4294967296) / 4294967296 := u64w (by omega) (by omega)
    have w7 : IntKind.u64.wrap ((x / 4294967296 * 10 + x % 4294967296 * 10 / 4294967296) % 4294967296) = (x / 4294967296 * 10 + x % 4294967296 * 10 / 4294967296) % 4294967296 := u64w (by omega) (by omega)
    have s4 : shrI .u64 ((x / 4294967296 * 10 + x % 4294967296 * 10 / 4294967296) % 4294967296) 32 = 0 := by rw [shift32 (by omega)]; omega
    rw [w6, w7, s4, Int.add_zero, w6, wrap_u64m, show (x / 4294967296 * 10 + x % 4294967296 * 10 / 4294967296) / 4294967296 = x * 10 / 18446744073709551616 by omega]
  · have c1 : shrI .u64 16 32 = 0 := by decide
    have c2 : band .u64 16 4294967295 = 16 := by decide
    refine RunF_sound tab_ok noX_local 100 [] _ _ rfl ?_ ?_
    · simp
    refine Run.retL tab_ok Tryd.func78 rfl trivial (fun M => ?_)
    simp only [resAV, conc, concL, c1, c2, m1, m2]
    have w1 : IntKind.u64.wrap (x % 4294967296 * 16) = x % 4294967296 * 16 := u64w (by omega) (by omega)
    have w2 : IntKind.u64.wrap (x / 4294967296 * 16) = x / 4294967296 * 16 := u64w (by omega) (by omega)
    have s1 : shrI .u64 (x % 4294967296 * 16) 32 = x % 4294967296 * 16 / 4294967296 := shift32 (by omega)
    have w3 : IntKind.u64.wrap (x / 4294967296 * 16 + x % 4294967296 * 16 / 4294967296) = x / 4294967296 * 16 + x % 4294967296 * 16 / 4294967296 := u64w (by omega) (by omega)
    have s2 : shrI .u64 (x / 4294967296 * 16 + x % 4294967296 * 16 / 4294967296) 32 = (x / 4294967296 * 16 + x % 4294967296 * 16 / 4294967296) / 4294967296 := shift32 (by omega)
    have s3 : band .u64 (x / 4294967296 * 16 + x % 4294967296 * 16 / 4294967296) 4294967295 = (x / 4294967296 * 16 + x % 4294967296 * 16 / 4294967296) % 4294967296 := mask32 (by omega) (by omega)
    have w4 : IntKind.u64.wrap (x / 4294967296 * 0) = 0 := by rw [Int.mul_zero]; rfl
    have w5 : IntKind.u64.wrap (x % 4294967296 * 0) = 0 := by rw [Int.mul_zero]; rfl
    rw [w1, w2, s1, w3, s2, s3, w4, w5, Int.zero_add, Int.add_zero]
    have w6 : IntKind.u64.wrap ((x / 4294967296 * 16 + x % 4294967296 * 16 / 4294967296) / 4294967296) = (x / 4294967296 * 16 + x % 4294967296 * 16 / 4294967296) / 4294967296 := u64w (by omega) (by omega)
    have w7 : IntKind.u64.wrap ((x / 4294967296 * 16 + x % 4294967296 * 16 / 4294967296) % 4294967296) = (x / 4294967296 * 16 + x % 4294967296 * 16 / 4294967296) % 4294967296 := u64w (by omega) (by omega)
    have s4 : shrI .u64 ((x / 4294967296 * 16 + x % 4294967296 * 16 / 4294967296) % 4294967296) 32 = 0 := by rw [shift32 (by omega)]; omega
    rw [w6, w7, s4, Int.add_zero, w6, wrap_u64m, show (x / 4294967296 * 16 + x % 4294967296 * 16 / 4294967296) / 4294967296 = x * 16 / 18446744073709551616 by omega]
theorem mul64_enters : Enters Tryd.prog 78 := enters_mk Tryd.func78 (by decide) rfl
end Go.Proofs.YtpfanhbkjajocaaDoor

/-
  Next: what is left of a text; the walk of word.Next. Own work.
-/
namespace Go.Proofs.YtpfanhbkjajocaaDoor
open Go.AM
set_option maxRecDepth 100000

/-- r is the text s from b on. -/
structure From (s r : ByteArray) (b : Nat) : Prop where
  size : r.size = s.size - b
  at' : ∀ j : Nat, tk r (j : Nat) = tk s (b + j : Nat)

theorem dgo_from {s r : ByteArray} {b : Nat} (h : From s r b) (B : Int) : ∀ (d i : Nat) (v : Int) (g : Bool), dgo s B d (b + i) v g = ((dgo r B d i v g).1, (dgo r B d i v g).2.1, b + (dgo r B d i v g).2.2)
  | 0, i, v, g => rfl
  | d + 1, i, v, g => by
    have ht := h.at' i
    have ih := dgo_from h B d (i + 1) (stp B v (dv (tk s (b + i : Nat)))) (g || ovf B v (dv (tk s (b + i : Nat))))
    unfold dgo
    rw [ht]
    split
    · rw [Nat.add_assoc]; exact ih
    · rfl
theorem hexS_from {s r : ByteArray} {b : Nat} (h : From s r b) : hexS s b = hexS r 0 := by
  have h0 := h.at' 0
  have h1 := h.at' 1
  have h2 := h.at' 2
  have hs := h.size
  unfold hexS xS
  simp only [Nat.zero_add, h1, h2, Nat.add_zero] at h0 ⊢
  rw [h0, hs, show decide (1 < s.size - b) = decide (b + 1 < s.size) from decide_eq_decide.2 (by omega), show decide (2 < s.size - b) = decide (b + 2 < s.size) from decide_eq_decide.2 (by omega)]
theorem baseS_from {s r : ByteArray} {b : Nat} (h : From s r b) : baseS s b = baseS r 0 := by unfold baseS; rw [hexS_from h]
theorem stS_from {s r : ByteArray} {b : Nat} (h : From s r b) : stS s b = b + stS r 0 := by
  unfold stS; rw [hexS_from h]; split <;> omega
theorem runS_from {s r : ByteArray} {b : Nat} (h : From s r b) : runS s b = ((runS r 0).1, (runS r 0).2.1, b + (runS r 0).2.2) := by
  have hs := h.size
  unfold runS
  rw [baseS_from h, stS_from h, show s.size - (b + stS r 0) = r.size - stS r 0 by omega]
  exact dgo_from h _ _ _ _ _

theorem from_cut (s : ByteArray) (a : Nat) (h : a ≤ s.size) : From s (s.extract a s.size) a := ⟨by simp, fun j => tk_cut s a j⟩
theorem From.comp {s r q : ByteArray} {a b : Nat} (h : From s r a) (h' : From r q b) : From s q (a + b) := ⟨by rw [h'.size, h.size]; omega, fun j => by rw [h'.at' j, h.at' (b + j), Nat.add_assoc]⟩

theorem strt_size {s : ByteArray} (h : strt s = true) : 0 < s.size := by unfold strt at h; simp at h; exact h.1
theorem rest_from (s : ByteArray) : From s (restS s) (if strt s then 1 else 0) := by
  unfold restS
  split
  · rename_i h
    exact from_cut s 1 (strt_size h)
  · exact ⟨by omega, fun j => by rw [Nat.zero_add]⟩
theorem strt_cut (s : ByteArray) (a : Nat) (h : a ≤ s.size) : strt (s.extract a s.size) = negS s a := by
  have h1 := (from_cut s a h).size
  have h2 := tk_cut s a 0
  unfold strt negS
  rw [show tk (s.extract a s.size) 0 = tk s a from h2, h1, show decide (0 < s.size - a) = decide (a < s.size) from decide_eq_decide.2 (by omega)]

/-- What Next answers, of what is left. -/
def nextR (r : ByteArray) (ng : Bool) : T3 :=
  if (runS r 0).2.2 = stS r 0 then (0, 0, 40)
  else if (runS r 0).2.1 || (ng && decide ((runS r 0).1 > 9223372036854775808)) then (0, 0, 41)
  else (IntKind.i64.wrap (if ng then IntKind.u64.wrap (0 - (runS r 0).1) else (runS r 0).1), ((runS r 0).2.2 + (if ng then 1 else 0) : Nat), 0)

theorem begS_eq (s : ByteArray) (a : Nat) : begS s a = a + (if negS s a then 1 else 0) := by unfold begS; split <;> rfl

theorem nextAt_eq (s : ByteArray) (a : Nat) (h : a ≤ s.size) : nextAt s a = nextR (restS (s.extract a s.size)) (negS s a) := by
  have hf : From s (restS (s.extract a s.size)) (begS s a) := by
    have := (from_cut s a h).comp (rest_from (s.extract a s.size))
    rw [strt_cut s a h] at this
    rw [begS_eq]; exact this
  unfold nextAt nextR
  rw [runS_from hf, stS_from hf, begS_eq]
  generalize runS (restS (s.extract a s.size)) 0 = F
  generalize stS (restS (s.extract a s.size)) 0 = S0
  by_cases c : F.2.2 = S0
  · rw [if_pos c, if_pos (by show _ + F.2.2 = _ + S0; omega)]
  · rw [if_neg c, if_neg (by show ¬ (_ + F.2.2 = _ + S0); omega)]
    by_cases c2 : (F.2.1 || (negS s a && decide (F.1 > 9223372036854775808))) = true
    · rw [if_pos c2, if_pos c2]
    · rw [if_neg c2, if_neg c2]
      have : (a + (if negS s a = true then 1 else 0) + F.2.2 - a : Nat) = F.2.2 + (if negS s a = true then 1 else 0) := by omega
      rw [this]

theorem lenS_eq (s : ByteArray) : lenS s = (((runS (restS s) 0).2.2 + (if strt s then 1 else 0) : Nat) : Int) := by
  have h0 : strt s = negS s 0 := by unfold strt negS; rfl
  have hf := rest_from s
  unfold lenS
  rw [begS_eq, Nat.zero_add, ← h0, runS_from hf]
  show (((if strt s = true then 1 else 0) + (runS (restS s) 0).2.2 : Nat) : Int) = _
  rw [Nat.add_comm]

theorem base_or (r : ByteArray) (b : Nat) : baseS r b = 10 ∨ baseS r b = 16 := by unfold baseS; split <;> simp
theorem st_le (r : ByteArray) : stS r 0 ≤ r.size := by
  unfold stS
  split
  · rename_i h
    unfold hexS at h
    simp at h
    omega
  · omega

/-- One digit more: what Mul64 and Add64 say of it. -/
theorem ovf_eq {B v d : Int} (hB : B = 10 ∨ B = 16) (h0 : 0 ≤ v) (h1 : v < 18446744073709551616) (hd : 0 ≤ d) (hd' : d ≤ 99) :
    ovf B v d = (decide (v * B / 18446744073709551616 > 0) || decide ((v * B % 18446744073709551616 + d + 0) / 18446744073709551616 > 0)) ∧ (v * B % 18446744073709551616 + d + 0) % 18446744073709551616 = stp B v d := by
  unfold ovf stp
  rcases hB with rfl | rfl
  · refine ⟨?_, by omega⟩
    rw [Bool.eq_iff_iff]; simp; omega
  · refine ⟨?_, by omega⟩
    rw [Bool.eq_iff_iff]; simp; omega

theorem or32 (c : Int) (h0 : 0 ≤ c) (h1 : c < 256) : (bor .u8 c 32 == 120) = (decide (c = 120) || decide (c = 88)) := by
  obtain ⟨n, rfl⟩ := Int.eq_ofNat_of_zero_le h0
  have hn : n < 256 := by omega
  have : ∀ n : Fin 256, (bor .u8 ((n.1 : Nat) : Int) 32 == 120) = (decide (((n.1 : Nat) : Int) = 120) || decide (((n.1 : Nat) : Int) = 88)) := by decide +kernel
  exact this ⟨n, hn⟩
end Go.Proofs.YtpfanhbkjajocaaDoor

/-
  The walk of word.Next. Own work.
-/
namespace Go.Proofs.YtpfanhbkjajocaaDoor
open Go.AM
set_option maxRecDepth 100000

theorem hexS_iff {r : ByteArray} : hexS r 0 = true ↔ 2 < r.size ∧ tk r 0 = 48 ∧ (tk r 1 = 120 ∨ tk r 1 = 88) ∧ dv (tk r 2) < 16 := by
  unfold hexS xS
  simp
  constructor
  · rintro ⟨⟨_, a, b⟩, c, d⟩; exact ⟨c, a, b, d⟩
  · rintro ⟨c, a, b, d⟩; exact ⟨⟨by omega, a, b⟩, c, d⟩

theorem add64_ok (x d : Int) (h0 : 0 ≤ x) (hd : 0 ≤ d) (w : World) :
    (callFunc 79 [Value.int .u64 x, .int .u64 d, .int .u64 0].toArray).run Tryd.prog w = .ok (.value (.tuple #[.int .u64 ((x + d + 0) % 18446744073709551616), .int .u64 ((x + d + 0) / 18446744073709551616)])) w := by
  rw [run_callFunc_extern Tryd.func79 (by kernel_rfl) (by kernel_rfl) (by kernel_rfl) (e := add64Entry) (by kernel_rfl)]
  show ((add64Entry #[.int .u64 x, .int .u64 d, .int .u64 0]).run Tryd.prog w).andThen _ = _
  rw [run_add64 x d 0 h0 hd (by omega) (by omega)]
  rfl

theorem next_ok (s : ByteArray) (a : Int) (w : World) (hs : s.size ≤ maxLen) : Gives Tryd.prog 55 [.string s, .int .i64 a] w (tv (nextS s a)) := by
  refine Gives.of_run Tryd.func55 rfl (by show 2 ≤ 116; decide) ?_
  have hsz : (s.size : Int) ≤ 9223372036854775807 := by simp only [maxLen] at hs; omega
  unfold nextS
  by_cases h1 : a < 0
  · refine RunF_sound tab_ok noX_local 100 [true, true] _ _ rfl ?_ ?_
    · simp [h1]
    · refine Run.retL tab_ok Tryd.func55 rfl trivial (fun M => ?_)
      rw [if_pos (.inl h1)]; rfl
  by_cases h2 : a > s.size
  · refine RunF_sound tab_ok noX_local 100 [false, true] _ _ rfl ?_ ?_
    · simp; omega
    · refine Run.retL tab_ok Tryd.func55 rfl trivial (fun M => ?_)
      rw [if_pos (.inr h2)]; rfl
  rw [if_neg (by omega)]
  have hA : a.toNat ≤ s.size := by omega
  rw [nextAt_eq s a.toNat hA]
  refine RunF_sound tab_ok noX_local 200 [false, false] _ _ rfl ?_ ?_
  · simp; omega
  have hs1 : (s.extract a.toNat s.size).size ≤ maxLen := by simp only [ByteArray.size_extract]; omega
  refine Run.callFn noX_local rfl rfl rfl rfl rfl rfl rfl cutPrefix_enters rfl (fun w' _ => cutPrefix_ok _ hs1 w') ?_
  rw [strt_cut s a.toNat hA]
  have hrs : (restS (s.extract a.toNat s.size)).size ≤ s.size := by
    rw [(rest_from _).size]; simp only [ByteArray.size_extract]; omega
  have hrs2 : negS s a.toNat = true → (restS (s.extract a.toNat s.size)).size + 1 ≤ s.size := fun h => by
    have h3 : strt (s.extract a.toNat s.size) = true := (strt_cut s a.toNat hA).trans h
    have h4 := strt_size h3
    rw [(rest_from _).size, h3]; simp only [ByteArray.size_extract] at h4 ⊢; simp; omega
  generalize restS (s.extract a.toNat s.size) = r at hrs hrs2
  generalize negS s a.toNat = ng at hrs2
  clear hs1 h1 h2 hA
  have hB := base_or r 0
  have hSt := st_le r
  have hrsz : (r.size : Int) ≤ 9223372036854775807 := by omega
  refine' Run.join (todo' := _) [(7, .v (.string r)), (8, .v (.bool ng)), (9, .v (.int .u64 (baseS r 0))), (10, .v (.int .i64 (stS r 0 : Nat))), (13, .v (.int .u64 0)), (14, .v (.bool false)), (15, .v (.int .i64 (stS r 0 : Nat)))] [] 0 ?_ ?_
  rotate_left
  · intro H
    have b0 := tk_nonneg r 0
    have b1 := tk_nonneg r 1
    have b2 := tk_nonneg r 2
    have l1 := tk_lt r 1
    have l2 := tk_lt r 2
    have t0 : (((r[0]?.getD 0).toNat : Nat) : Int) = tk r 0 := rfl
    have t1 : (((r[1]?.getD 0).toNat : Nat) : Int) = tk r 1 := rfl
    have t2 : (((r[2]?.getD 0).toNat : Nat) : Int) = tk r 2 := rfl
    have ho : bor .u8 (tk r 1) 32 = 120 ↔ (tk r 1 = 120 ∨ tk r 1 = 88) := by
      have := or32 (tk r 1) b1 l1
      rw [Bool.eq_iff_iff] at this
      simpa using this
    by_cases c1 : r.size > 2
    · by_cases c2 : tk r 0 = 48
      · by_cases c3 : tk r 1 = 120 ∨ tk r 1 = 88
        · refine RunF_sound tab_ok noX_local 200 [true, true, true] _ _ rfl ?_ ?_
          · simp [t0, t1, ho, c2, c3]; omega
          refine Run.callFn noX_local rfl rfl rfl rfl rfl rfl rfl digit_enters rfl (fun w' _ => digit_ok (tk r 2) 16 b2 l2 w') ?_
          by_cases c4 : dv (tk r 2) < 16
          · have hx : hexS r 0 = true := hexS_iff.2 ⟨c1, c2, c3, c4⟩
            have hb : baseS r 0 = 16 := by unfold baseS; rw [hx]; rfl
            have hst : stS r 0 = 2 := by unfold stS; rw [hx]; rfl
            refine RunF_sound tab_ok noX_local 200 [true] _ _ rfl ?_ ?_
            · simp [c4]
            refine H _ ?_ trivial
            exact ⟨⟨_, rfl, fun M => rfl⟩, ⟨_, rfl, fun M => rfl⟩, ⟨_, rfl, fun M => by simp only [conc, hb]⟩, ⟨_, rfl, fun M => by simp only [conc, hst]; rfl⟩, ⟨_, rfl, fun M => rfl⟩, ⟨_, rfl, fun M => rfl⟩, ⟨_, rfl, fun M => by simp only [conc, hst]; rfl⟩, trivial⟩
          · have hx : hexS r 0 = false := Bool.eq_false_iff.2 fun h => c4 (hexS_iff.1 h).2.2.2
            have hb : baseS r 0 = 10 := by unfold baseS; rw [hx]; rfl
            have hst : stS r 0 = 0 := by unfold stS; rw [hx]; rfl
            refine RunF_sound tab_ok noX_local 200 [false] _ _ rfl ?_ ?_
            · simp; omega
            refine H _ ?_ trivial
            exact ⟨⟨_, rfl, fun M => rfl⟩, ⟨_, rfl, fun M => rfl⟩, ⟨_, rfl, fun M => by simp only [conc, hb]⟩, ⟨_, rfl, fun M => by simp only [conc, hst]; rfl⟩, ⟨_, rfl, fun M => rfl⟩, ⟨_, rfl, fun M => rfl⟩, ⟨_, rfl, fun M => by simp only [conc, hst]; rfl⟩, trivial⟩
        · have hx : hexS r 0 = false := Bool.eq_false_iff.2 fun h => c3 (hexS_iff.1 h).2.2.1
          have hb : baseS r 0 = 10 := by unfold baseS; rw [hx]; rfl
          have hst : stS r 0 = 0 := by unfold stS; rw [hx]; rfl
          refine RunF_sound tab_ok noX_local 200 [true, true, false] _ _ rfl ?_ ?_
          · simp [t0, t1, ho, c2]
            (repeat' refine And.intro ?_ ?_) <;> first | omega | simpa using c3
          refine H _ ?_ trivial
          exact ⟨⟨_, rfl, fun M => rfl⟩, ⟨_, rfl, fun M => rfl⟩, ⟨_, rfl, fun M => by simp only [conc, hb]⟩, ⟨_, rfl, fun M => by simp only [conc, hst]; rfl⟩, ⟨_, rfl, fun M => rfl⟩, ⟨_, rfl, fun M => rfl⟩, ⟨_, rfl, fun M => by simp only [conc, hst]; rfl⟩, trivial⟩
      · have hx : hexS r 0 = false := Bool.eq_false_iff.2 fun h => c2 (hexS_iff.1 h).2.1
        have hb : baseS r 0 = 10 := by unfold baseS; rw [hx]; rfl
        have hst : stS r 0 = 0 := by unfold stS; rw [hx]; rfl
        refine RunF_sound tab_ok noX_local 200 [true, false] _ _ rfl ?_ ?_
        · simp [t0, c2]; omega
        refine H _ ?_ trivial
        exact ⟨⟨_, rfl, fun M => rfl⟩, ⟨_, rfl, fun M => rfl⟩, ⟨_, rfl, fun M => by simp only [conc, hb]⟩, ⟨_, rfl, fun M => by simp only [conc, hst]; rfl⟩, ⟨_, rfl, fun M => rfl⟩, ⟨_, rfl, fun M => rfl⟩, ⟨_, rfl, fun M => by simp only [conc, hst]; rfl⟩, trivial⟩
    · have hx : hexS r 0 = false := Bool.eq_false_iff.2 fun h => c1 (hexS_iff.1 h).1
      have hb : baseS r 0 = 10 := by unfold baseS; rw [hx]; rfl
      have hst : stS r 0 = 0 := by unfold stS; rw [hx]; rfl
      refine RunF_sound tab_ok noX_local 200 [false] _ _ rfl ?_ ?_
      · simp; omega
      refine H _ ?_ trivial
      exact ⟨⟨_, rfl, fun M => rfl⟩, ⟨_, rfl, fun M => rfl⟩, ⟨_, rfl, fun M => by simp only [conc, hb]⟩, ⟨_, rfl, fun M => by simp only [conc, hst]; rfl⟩, ⟨_, rfl, fun M => rfl⟩, ⟨_, rfl, fun M => rfl⟩, ⟨_, rfl, fun M => by simp only [conc, hst]; rfl⟩, trivial⟩
  have hF : runS r 0 = dgo r (baseS r 0) (r.size - stS r 0) (stS r 0) 0 false := rfl
  unfold nextR
  generalize runS r 0 = F at hF
  generalize baseS r 0 = B at *
  generalize stS r 0 = S0 at *
  have hFb := dgo_bounds r B (r.size - S0) S0 0 false (by omega) (by omega)
  rw [← hF] at hFb
  refine' Run.join (todo' := _) [(8, .v (.bool ng)), (13, .v (.int .u64 F.1)), (14, .v (.bool F.2.1)), (15, .v (.int .i64 (F.2.2 : Nat))), (99, .v (.bool (((F.2.2 : Nat) : Int) == (S0 : Int))))] [] 0 ?_ ?_
  rotate_left
  · intro H
    suffices K : ∀ (d i : Nat) (v : Int) (g : Bool), i + d = r.size → F = dgo r B d i v g → 0 ≤ v → v < 18446744073709551616 → ∀ σ, inTC σ.t [(7, .v (.string r)), (8, .v (.bool ng)), (9, .v (.int .u64 B)), (10, .v (.int .i64 (S0 : Nat))), (13, .v (.int .u64 v)), (14, .v (.bool g)), (15, .v (.int .i64 (i : Nat)))] → inT σ.h [] → Run _ _ σ by
      exact K (r.size - S0) S0 0 false (by omega) hF (by omega) (by omega) _ ⟨⟨_, rfl, fun M => rfl⟩, ⟨_, rfl, fun M => rfl⟩, ⟨_, rfl, fun M => rfl⟩, ⟨_, rfl, fun M => rfl⟩, ⟨_, rfl, fun M => rfl⟩, ⟨_, rfl, fun M => rfl⟩, ⟨_, rfl, fun M => rfl⟩, trivial⟩ trivial
    intro d
    induction d with
    | zero =>
      intro i v g hi hv h0 h1 σ ht hh
      refine Run.toC ?_ ht hh (n' := 0)
      rw [dgo] at hv
      refine RunF_sound tab_ok noX_local 200 [false] _ _ rfl ?_ ?_
      · simp; omega
      refine H _ ?_ trivial
      exact ⟨⟨_, rfl, fun M => rfl⟩, ⟨_, rfl, fun M => by rw [hv]⟩, ⟨_, rfl, fun M => by rw [hv]⟩, ⟨_, rfl, fun M => by rw [hv]⟩, ⟨_, rfl, fun M => by rw [hv] <;> rfl⟩, trivial⟩
    | succ d ih =>
      intro i v g hi hv h0 h1 σ ht hh
      refine Run.toC ?_ ht hh (n' := 0)
      rw [dgo] at hv
      have hil : i < r.size := by omega
      have c0 := tk_nonneg r i
      have c1 := tk_lt r i
      have hd := dv_bounds (tk r i)
      refine RunF_sound tab_ok noX_local 200 [true] _ _ rfl ?_ ?_
      · simp; omega
      refine Run.callFn noX_local rfl rfl rfl rfl rfl rfl rfl digit_enters rfl (fun w' _ => digit_ok (tk r i) B c0 c1 w') ?_
      by_cases cd : dv (tk r i) < B
      · rw [if_pos cd] at hv
        refine RunF_sound tab_ok noX_local 200 [false] _ _ rfl ?_ ?_
        · simp [cd]
        refine Run.callFn noX_local rfl rfl rfl rfl rfl rfl rfl mul64_enters rfl (fun w' _ => mul64_ok v B h0 h1 hB w') ?_
        obtain ⟨ho, hst⟩ := ovf_eq hB h0 h1 hd.1 hd.2
        have hlo : 0 ≤ v * B % 18446744073709551616 := by omega
        generalize v * B % 18446744073709551616 = lo at *
        generalize v * B / 18446744073709551616 = hi' at *
        refine RunF_sound tab_ok noX_local 200 [] _ _ rfl ?_ ?_
        · simp
        refine Run.callX rfl rfl rfl rfl rfl rfl rfl rfl (fun w' => add64_ok lo (dv (tk r i)) hlo hd.1 w') ?_
        have hst0 : 0 ≤ stp B v (dv (tk r i)) := by unfold stp; omega
        have hst1 : stp B v (dv (tk r i)) < 18446744073709551616 := by unfold stp; omega
        cases g with
        | true =>
          rw [Bool.true_or] at hv
          refine RunF_sound tab_ok noX_local 200 [true, true] _ _ rfl ?_ ?_
          · simp
          refine ih (i + 1) _ _ (by omega) hv hst0 hst1 _ ?_ trivial
          exact ⟨⟨_, rfl, fun M => rfl⟩, ⟨_, rfl, fun M => rfl⟩, ⟨_, rfl, fun M => rfl⟩, ⟨_, rfl, fun M => rfl⟩, ⟨_, rfl, fun M => by simp only [conc, hst]; rfl⟩, ⟨_, rfl, fun M => rfl⟩, ⟨_, rfl, fun M => by simp only [conc, wrap_succ (show i < 9223372036854775807 by omega)]⟩, trivial⟩
        | false =>
          rw [Bool.false_or] at hv
          by_cases ch : hi' > 0
          · refine RunF_sound tab_ok noX_local 200 [false, true] _ _ rfl ?_ ?_
            · simp [ch]
            have hov : ovf B v (dv (tk r i)) = true := by rw [ho, decide_eq_true ch]; rfl
            refine ih (i + 1) _ _ (by omega) hv hst0 hst1 _ ?_ trivial
            exact ⟨⟨_, rfl, fun M => rfl⟩, ⟨_, rfl, fun M => rfl⟩, ⟨_, rfl, fun M => rfl⟩, ⟨_, rfl, fun M => rfl⟩, ⟨_, rfl, fun M => by simp only [conc, hst]; rfl⟩, ⟨_, rfl, fun M => by rw [hov] <;> rfl⟩, ⟨_, rfl, fun M => by simp only [conc, wrap_succ (show i < 9223372036854775807 by omega)]⟩, trivial⟩
          · refine RunF_sound tab_ok noX_local 200 [false, false] _ _ rfl ?_ ?_
            · simp [ch]
            have hov : ovf B v (dv (tk r i)) = decide ((lo + dv (tk r i) + 0) / 18446744073709551616 > 0) := by rw [ho, decide_eq_false ch]; rfl
            refine ih (i + 1) _ _ (by omega) hv hst0 hst1 _ ?_ trivial
            exact ⟨⟨_, rfl, fun M => rfl⟩, ⟨_, rfl, fun M => rfl⟩, ⟨_, rfl, fun M => rfl⟩, ⟨_, rfl, fun M => rfl⟩, ⟨_, rfl, fun M => by simp only [conc, hst]; rfl⟩, ⟨_, rfl, fun M => by rw [hov] <;> rfl⟩, ⟨_, rfl, fun M => by simp only [conc, wrap_succ (show i < 9223372036854775807 by omega)]⟩, trivial⟩
      · rw [if_neg cd] at hv
        refine RunF_sound tab_ok noX_local 200 [true] _ _ rfl ?_ ?_
        · simp [cd]
        refine H _ ?_ trivial
        exact ⟨⟨_, rfl, fun M => rfl⟩, ⟨_, rfl, fun M => by rw [hv]⟩, ⟨_, rfl, fun M => by rw [hv]⟩, ⟨_, rfl, fun M => by rw [hv]⟩, ⟨_, rfl, fun M => by rw [hv] <;> rfl⟩, trivial⟩
  clear hF
  obtain ⟨v, g, e⟩ := F
  simp only [] at hFb ⊢
  by_cases x1 : e = S0
  · refine RunF_sound tab_ok noX_local 200 [true] _ _ rfl ?_ ?_
    · simp [x1]
    refine Run.retL tab_ok Tryd.func55 rfl trivial (fun M => ?_)
    rw [if_pos x1]; rfl
  rw [if_neg x1]
  have x1' : ¬ ((e : Int) = S0) := by omega
  cases ng with
  | true =>
    have hrs3 := hrs2 rfl
    cases g with
    | true =>
      refine RunF_sound tab_ok noX_local 200 [false, true, true, true] _ _ rfl ?_ ?_
      · simp [x1']
      refine Run.retL tab_ok Tryd.func55 rfl trivial (fun M => ?_)
      rfl
    | false =>
      by_cases x2 : v > 9223372036854775808
      · refine RunF_sound tab_ok noX_local 200 [false, true, false, true] _ _ rfl ?_ ?_
        · simp [x1', x2]
        refine Run.retL tab_ok Tryd.func55 rfl trivial (fun M => ?_)
        rw [if_pos (by simp [x2])]; rfl
      · refine RunF_sound tab_ok noX_local 200 [false, true, false, false] _ _ rfl ?_ ?_
        · simp [x1', x2]
        refine Run.retL tab_ok Tryd.func55 rfl trivial (fun M => ?_)
        rw [if_neg (by simp [x2])]
        have := wrap_succ (show e < 9223372036854775807 by omega)
        simp only [resAV, conc, concL, this]
        rfl
  | false =>
    cases g with
    | true =>
      refine RunF_sound tab_ok noX_local 200 [false, false, true] _ _ rfl ?_ ?_
      · simp [x1']
      refine Run.retL tab_ok Tryd.func55 rfl trivial (fun M => ?_)
      rfl
    | false =>
      refine RunF_sound tab_ok noX_local 200 [false, false, false] _ _ rfl ?_ ?_
      · simp [x1']
      refine Run.retL tab_ok Tryd.func55 rfl trivial (fun M => ?_)
      rfl
theorem next_enters : Enters Tryd.prog 55 := enters_mk Tryd.func55 (by decide) rfl
end Go.Proofs.YtpfanhbkjajocaaDoor

/-
  word.length and word.Parse. Own work.
-/
namespace Go.Proofs.YtpfanhbkjajocaaDoor
open Go.AM
set_option maxRecDepth 100000

theorem length_ok (s : ByteArray) (w : World) (hs : s.size ≤ maxLen) : Gives Tryd.prog 75 [.string s] w (.int .i64 (lenS s)) := by
  refine Gives.of_run Tryd.func75 rfl (by show 1 ≤ 57; decide) ?_
  have hsz : (s.size : Int) ≤ 9223372036854775807 := by simp only [maxLen] at hs; omega
  rw [lenS_eq]
  refine RunF_sound tab_ok noX_local 200 [] _ _ rfl ?_ ?_
  · simp
  refine Run.callFn noX_local rfl rfl rfl rfl rfl rfl rfl cutPrefix_enters rfl (fun w' _ => cutPrefix_ok s hs w') ?_
  have hrs : (restS s).size ≤ s.size := by rw [(rest_from _).size]; omega
  have hrs2 : strt s = true → (restS s).size + 1 ≤ s.size := fun h => by
    have h4 := strt_size h
    rw [(rest_from _).size, h]; simp; omega
  generalize restS s = r at hrs hrs2
  generalize strt s = ng at hrs2
  have hB := base_or r 0
  have hSt := st_le r
  have hrsz : (r.size : Int) ≤ 9223372036854775807 := by omega
  refine' Run.join (todo' := _) [(3, .v (.string r)), (4, .v (.bool ng)), (5, .v (.int .u64 (baseS r 0))), (6, .v (.int .i64 (stS r 0 : Nat)))] [] 0 ?_ ?_
  rotate_left
  · intro H
    have b0 := tk_nonneg r 0
    have b1 := tk_nonneg r 1
    have b2 := tk_nonneg r 2
    have l1 := tk_lt r 1
    have l2 := tk_lt r 2
    have t0 : (((r[0]?.getD 0).toNat : Nat) : Int) = tk r 0 := rfl
    have t1 : (((r[1]?.getD 0).toNat : Nat) : Int) = tk r 1 := rfl
    have t2 : (((r[2]?.getD 0).toNat : Nat) : Int) = tk r 2 := rfl
    have ho : bor .u8 (tk r 1) 32 = 120 ↔ (tk r 1 = 120 ∨ tk r 1 = 88) := by
      have := or32 (tk r 1) b1 l1
      rw [Bool.eq_iff_iff] at this
      simpa using this
    by_cases c1 : r.size > 2
    · by_cases c2 : tk r 0 = 48
      · by_cases c3 : tk r 1 = 120 ∨ tk r 1 = 88
        · refine RunF_sound tab_ok noX_local 200 [true, true, true] _ _ rfl ?_ ?_
          · simp [t0, t1, ho, c2, c3]; omega
          refine Run.callFn noX_local rfl rfl rfl rfl rfl rfl rfl digit_enters rfl (fun w' _ => digit_ok (tk r 2) 16 b2 l2 w') ?_
          by_cases c4 : dv (tk r 2) < 16
          · have hx : hexS r 0 = true := hexS_iff.2 ⟨c1, c2, c3, c4⟩
            have hb : baseS r 0 = 16 := by unfold baseS; rw [hx]; rfl
            have hst : stS r 0 = 2 := by unfold stS; rw [hx]; rfl
            refine RunF_sound tab_ok noX_local 200 [true] _ _ rfl ?_ ?_
            · simp [c4]
            refine H _ ?_ trivial
            exact ⟨⟨_, rfl, fun M => rfl⟩, ⟨_, rfl, fun M => rfl⟩, ⟨_, rfl, fun M => by simp only [conc, hb]⟩, ⟨_, rfl, fun M => by simp only [conc, hst]; rfl⟩, trivial⟩
          · have hx : hexS r 0 = false := Bool.eq_false_iff.2 fun h => c4 (hexS_iff.1 h).2.2.2
            have hb : baseS r 0 = 10 := by unfold baseS; rw [hx]; rfl
            have hst : stS r 0 = 0 := by unfold stS; rw [hx]; rfl
            refine RunF_sound tab_ok noX_local 200 [false] _ _ rfl ?_ ?_
            · simp; omega
            refine H _ ?_ trivial
            exact ⟨⟨_, rfl, fun M => rfl⟩, ⟨_, rfl, fun M => rfl⟩, ⟨_, rfl, fun M => by simp only [conc, hb]⟩, ⟨_, rfl, fun M => by simp only [conc, hst]; rfl⟩, trivial⟩
        · have hx : hexS r 0 = false := Bool.eq_false_iff.2 fun h => c3 (hexS_iff.1 h).2.2.1
          have hb : baseS r 0 = 10 := by unfold baseS; rw [hx]; rfl
          have hst : stS r 0 = 0 := by unfold stS; rw [hx]; rfl
          refine RunF_sound tab_ok noX_local 200 [true, true, false] _ _ rfl ?_ ?_
          · simp [t0, t1, ho, c2]
            (repeat' refine And.intro ?_ ?_) <;> first | omega | simpa using c3
          refine H _ ?_ trivial
          exact ⟨⟨_, rfl, fun M => rfl⟩, ⟨_, rfl, fun M => rfl⟩, ⟨_, rfl, fun M => by simp only [conc, hb]⟩, ⟨_, rfl, fun M => by simp only [conc, hst]; rfl⟩, trivial⟩
      · have hx : hexS r 0 = false := Bool.eq_false_iff.2 fun h => c2 (hexS_iff.1 h).2.1
        have hb : baseS r 0 = 10 := by unfold baseS; rw [hx]; rfl
        have hst : stS r 0 = 0 := by unfold stS; rw [hx]; rfl
        refine RunF_sound tab_ok noX_local 200 [true, false] _ _ rfl ?_ ?_
        · simp [t0, c2]; omega
        refine H _ ?_ trivial
        exact ⟨⟨_, rfl, fun M => rfl⟩, ⟨_, rfl, fun M => rfl⟩, ⟨_, rfl, fun M => by simp only [conc, hb]⟩, ⟨_, rfl, fun M => by simp only [conc, hst]; rfl⟩, trivial⟩
    · have hx : hexS r 0 = false := Bool.eq_false_iff.2 fun h => c1 (hexS_iff.1 h).1
      have hb : baseS r 0 = 10 := by unfold baseS; rw [hx]; rfl
      have hst : stS r 0 = 0 := by unfold stS; rw [hx]; rfl
      refine RunF_sound tab_ok noX_local 200 [false] _ _ rfl ?_ ?_
      · simp; omega
      refine H _ ?_ trivial
      exact ⟨⟨_, rfl, fun M => rfl⟩, ⟨_, rfl, fun M => rfl⟩, ⟨_, rfl, fun M => by simp only [conc, hb]⟩, ⟨_, rfl, fun M => by simp only [conc, hst]; rfl⟩, trivial⟩
  have hF : runS r 0 = dgo r (baseS r 0) (r.size - stS r 0) (stS r 0) 0 false := rfl
  generalize runS r 0 = F at hF
  generalize baseS r 0 = B at *
  generalize stS r 0 = S0 at *
  have hFb := dgo_bounds r B (r.size - S0) S0 0 false (by omega) (by omega)
  rw [← hF] at hFb
  refine' Run.join (todo' := _) [(6, .v (.int .i64 (F.2.2 : Nat))), (53, .v (.bool ng))] [] 0 ?_ ?_
  rotate_left
  · intro H
    suffices K : ∀ (d i : Nat) (v : Int) (g : Bool), i + d = r.size → F = dgo r B d i v g → ∀ σ, inT σ.t [(3, .v (.string r)), (4, .v (.bool ng)), (5, .v (.int .u64 B)), (6, .v (.int .i64 (i : Nat)))] → inT σ.h [] → Run _ _ σ by
      exact K (r.size - S0) S0 0 false (by omega) hF _ ⟨rfl, rfl, rfl, rfl, trivial⟩ trivial
    intro d
    induction d with
    | zero =>
      intro i v g hi hv σ ht hh
      refine Run.to ?_ ht hh (n' := 0)
      rw [dgo] at hv
      refine RunF_sound tab_ok noX_local 200 [false] _ _ rfl ?_ ?_
      · simp; omega
      refine H _ ?_ trivial
      exact ⟨⟨_, rfl, fun M => by rw [hv]⟩, ⟨_, rfl, fun M => rfl⟩, trivial⟩
    | succ d ih =>
      intro i v g hi hv σ ht hh
      refine Run.to ?_ ht hh (n' := 0)
      rw [dgo] at hv
      have hil : i < r.size := by omega
      have c0 := tk_nonneg r i
      have c1 := tk_lt r i
      refine RunF_sound tab_ok noX_local 200 [true] _ _ rfl ?_ ?_
      · simp; omega
      refine Run.callFn noX_local rfl rfl rfl rfl rfl rfl rfl digit_enters rfl (fun w' _ => digit_ok (tk r i) B c0 c1 w') ?_
      by_cases cd : dv (tk r i) < B
      · rw [if_pos cd] at hv
        refine RunF_sound tab_ok noX_local 200 [false] _ _ rfl ?_ ?_
        · simp [cd]
        exact ih (i + 1) _ _ (by omega) hv _ ⟨rfl, rfl, rfl, i64_eq (wrap_succ (by omega)), trivial⟩ trivial
      · rw [if_neg cd] at hv
        refine RunF_sound tab_ok noX_local 200 [true] _ _ rfl ?_ ?_
        · simp [cd]
        refine H _ ?_ trivial
        exact ⟨⟨_, rfl, fun M => by rw [hv]⟩, ⟨_, rfl, fun M => rfl⟩, trivial⟩
  cases ng with
  | true =>
    have hrs3 := hrs2 rfl
    refine RunF_sound tab_ok noX_local 200 [true] _ _ rfl ?_ ?_
    · simp
    refine Run.retP tab_ok Tryd.func75 rfl trivial (fun M => ?_)
    have := wrap_succ (show F.2.2 < 9223372036854775807 by omega)
    simp only [resAV, conc, this]
    rfl
  | false =>
    refine RunF_sound tab_ok noX_local 200 [false] _ _ rfl ?_ ?_
    · simp
    exact Run.retP tab_ok Tryd.func75 rfl trivial (fun M => rfl)
theorem length_enters : Enters Tryd.prog 75 := enters_mk Tryd.func75 (by decide) rfl

theorem next_err (s : ByteArray) : (nextS s 0).2.2 = 40 ∨ (nextS s 0).2.2 = 41 ∨ ((nextS s 0).2.2 = 0 ∧ (nextS s 0).2.1 = lenS s) := by
  unfold nextS
  rw [if_neg (by omega)]
  unfold nextAt
  split
  · exact .inl rfl
  · split
    · exact .inr (.inl rfl)
    · exact .inr (.inr ⟨rfl, rfl⟩)

theorem parse_ok (s : ByteArray) (w : World) (hs : s.size ≤ maxLen) : Gives Tryd.prog 54 [.string s] w (.tuple #[.int .i64 (parseS s).1, .int .i64 (parseS s).2]) := by
  refine Gives.of_run Tryd.func54 rfl (by show 1 ≤ 33; decide) ?_
  have he := next_err s
  unfold parseS
  refine RunF_sound tab_ok noX_local 200 [] _ _ rfl ?_ ?_
  · simp
  refine Run.callFn noX_local rfl rfl rfl rfl rfl rfl rfl next_enters rfl (fun w' _ => next_ok s 0 w' hs) ?_
  have hlen : ∀ w', Gives Tryd.prog 75 [.string s] w' (.int .i64 (lenS s)) := fun w' => length_ok s w' hs
  generalize nextS s 0 = N at he
  generalize lenS s = l at he hlen
  obtain ⟨v, n, e⟩ := N
  simp only [] at he ⊢
  by_cases c1 : e = 40
  · refine RunF_sound tab_ok noX_local 200 [true] _ _ rfl ?_ ?_
    · simp [c1, tv]
    refine Run.retL tab_ok Tryd.func54 rfl trivial (fun M => ?_)
    rw [if_pos c1, c1]; rfl
  rw [if_neg c1]
  refine RunF_sound tab_ok noX_local 200 [false] _ _ rfl ?_ ?_
  · simp [c1, tv]
  refine Run.callFn noX_local rfl rfl rfl rfl rfl rfl rfl length_enters rfl (fun w' _ => hlen w') ?_
  by_cases c2 : l = s.size
  · rw [if_neg (by simpa using c2)]
    by_cases c3 : e = 0
    · rw [if_neg (by simpa using c3)]
      have hn : n = s.size := by
        rcases he with h | h | h
        · omega
        · omega
        · rw [h.2, c2]
      refine RunF_sound tab_ok noX_local 200 [false, false, false] _ _ rfl ?_ ?_
      · simp [c2, c3, hn]
      exact Run.retL tab_ok Tryd.func54 rfl trivial (fun M => rfl)
    · rw [if_pos (by simpa using c3)]
      refine RunF_sound tab_ok noX_local 200 [false, true] _ _ rfl ?_ ?_
      · simp [c2, c3]
      exact Run.retL tab_ok Tryd.func54 rfl trivial (fun M => rfl)
  · rw [if_pos (by simpa using c2)]
    refine RunF_sound tab_ok noX_local 200 [true] _ _ rfl ?_ ?_
    · simp [c2]
    exact Run.retL tab_ok Tryd.func54 rfl trivial (fun M => rfl)
theorem parse_enters : Enters Tryd.prog 54 := enters_mk Tryd.func54 (by decide) rfl
end Go.Proofs.YtpfanhbkjajocaaDoor

/-
  The reference's Next, whole and Parse. Own work.
-/
namespace Go.Proofs.YtpfanhbkjajocaaDoor
open Go.AM
set_option maxRecDepth 100000

theorem runS_ten {s : ByteArray} {b : Nat} (h : hexS s b = false) : runS s b = dgo s 10 (s.size - b) b 0 false ∧ stS s b = b := by
  have h1 : baseS s b = 10 := by unfold baseS; rw [h]; rfl
  have h2 : stS s b = b := by unfold stS; rw [h]; rfl
  exact ⟨by unfold runS; rw [h1, h2], h2⟩
theorem runS_hex {s : ByteArray} {b : Nat} (h : hexS s b = true) : runS s b = dgo s 16 (s.size - (b + 2)) (b + 2) 0 false ∧ stS s b = b + 2 := by
  have h1 : baseS s b = 16 := by unfold baseS; rw [h]; rfl
  have h2 : stS s b = b + 2 := by unfold stS; rw [h]; rfl
  exact ⟨by unfold runS; rw [h1, h2], h2⟩
theorem hexS_iff' {s : ByteArray} {b : Nat} : hexS s b = true ↔ xS s b = true ∧ b + 2 < s.size ∧ dv (tk s (b + 2 : Nat)) < 16 := by
  unfold hexS; simp [and_assoc]
theorem xS_iff {s : ByteArray} {b : Nat} : xS s b = true ↔ b + 1 < s.size ∧ tk s b = 48 ∧ (tk s (b + 1 : Nat) = 120 ∨ tk s (b + 1 : Nat) = 88) := by
  unfold xS; simp
theorem hex_run {s : ByteArray} {b : Nat} (h : hexS s b = true) : (runS s b).2.2 ≠ stS s b := by
  obtain ⟨_, h1, h2⟩ := hexS_iff'.1 h
  rw [(runS_hex h).1, (runS_hex h).2]
  intro h3
  rcases (dgo_none s 16 _ _ _ _).1 h3 with h4 | h4
  · omega
  · exact h4 h2
theorem ten_zero {s : ByteArray} {b : Nat} (h : (dgo s 10 (s.size - b) b 0 false).2.2 = b) : hexS s b = false := by
  rw [Bool.eq_false_iff]
  intro h2
  obtain ⟨h3, h4, _⟩ := hexS_iff'.1 h2
  have h5 := (xS_iff.1 h3).2.1
  rcases (dgo_none s 10 _ _ _ _).1 h with h6 | h6
  · omega
  · apply h6; rw [h5]; decide

end Go.Proofs.YtpfanhbkjajocaaDoor

/-
  What Next finds is what Parse says of those bytes; one byte more is no number. In plain Lean. Own work.
-/
namespace Go.Proofs.YtpfanhbkjajocaaDoor
open Go.AM

/-- q is k bytes of s from a on. -/
structure Win (s q : ByteArray) (a k : Nat) : Prop where
  size : q.size = k
  le : a + k ≤ s.size
  at' : ∀ j : Nat, j < k → tk q (j : Nat) = tk s (a + j : Nat)

theorem win_cut (s : ByteArray) (a k : Nat) (h : a + k ≤ s.size) : Win s (s.extract a (a + k)) a k := by
  refine ⟨by simp; omega, h, fun j hj => ?_⟩
  have hs : (s.extract a (a + k)).size = k := by simp; omega
  unfold tk
  simp only [Int.toNat_natCast]
  have e1 : (s.extract a (a + k))[j]? = s[a + j]? := by
    simp only [getElem?_def, ByteArray.getElem_extract]
    rw [dif_pos (by omega), dif_pos (by omega)]
  rw [e1]

theorem dgo_le (s : ByteArray) (B : Int) : ∀ (d i : Nat) (v : Int) (g : Bool), i ≤ (dgo s B d i v g).2.2
  | 0, i, v, g => Nat.le_refl _
  | d + 1, i, v, g => by
    unfold dgo
    split
    · have := dgo_le s B d (i + 1) (stp B v (dv (tk s i))) (g || ovf B v (dv (tk s i))); omega
    · exact Nat.le_refl _
theorem dgo_end (s : ByteArray) (B : Int) : ∀ (d i : Nat) (v : Int) (g : Bool), (dgo s B d i v g).2.2 ≤ i + d
  | 0, i, v, g => Nat.le_refl _
  | d + 1, i, v, g => by
    unfold dgo
    split
    · have := dgo_end s B d (i + 1) (stp B v (dv (tk s i))) (g || ovf B v (dv (tk s i))); omega
    · exact Nat.le_add_right _ _
theorem dgo_stop (s : ByteArray) (B : Int) (d i : Nat) (v : Int) (g : Bool) (h : (dgo s B d i v g).2.2 = i) : dgo s B d i v g = (v, g, i) := by
  rcases (dgo_none s B d i v g).1 h with rfl | h2
  · rfl
  · cases d with
    | zero => rfl
    | succ d => unfold dgo; rw [if_neg h2]

theorem dgo_win {s q : ByteArray} {a k : Nat} (h : Win s q a k) (B : Int) : ∀ (d' d i : Nat) (v : Int) (g : Bool), i + d' = k → (dgo s B d (a + i) v g).2.2 ≤ a + k → d' ≤ d →
    dgo q B d' i v g = ((dgo s B d (a + i) v g).1, (dgo s B d (a + i) v g).2.1, (dgo s B d (a + i) v g).2.2 - a)
  | 0, d, i, v, g, hk, he, _ => by
    have h1 := dgo_le s B d (a + i) v g
    rw [dgo_stop s B d (a + i) v g (by omega)]
    show (v, g, i) = (v, g, a + i - a)
    rw [Nat.add_sub_cancel_left]
  | d' + 1, 0, i, v, g, hk, he, hd => by omega
  | d' + 1, d + 1, i, v, g, hk, he, hd => by
    have ht := h.at' i (by omega)
    have ih := dgo_win h B d' d (i + 1)
    unfold dgo at he ⊢
    rw [ht]
    by_cases c : dv (tk s (a + i : Nat)) < B
    · rw [if_pos c] at he ⊢
      rw [if_pos c]
      rw [ih _ _ (by omega) he (by omega)]
      rfl
    · rw [if_neg c, if_neg c]
      show (v, g, i) = (v, g, a + i - a)
      rw [Nat.add_sub_cancel_left]

theorem hex_size {s : ByteArray} {b : Nat} (h : hexS s b = true) : b + 2 < s.size := (hexS_iff'.1 h).2.1
theorem hexS_eq (s : ByteArray) (b : Nat) : hexS s b = (decide (b + 2 < s.size) && (decide (tk s b = 48) && ((decide (tk s (b + 1 : Nat) = 120) || decide (tk s (b + 1 : Nat) = 88)) && decide (dv (tk s (b + 2 : Nat)) < 16)))) := by
  rw [Bool.eq_iff_iff, hexS_iff', xS_iff]
  simp
  omega

/-- The number that Next finds in a text, in a part of it. -/
theorem run_win {s q : ByteArray} {a k : Nat} (h : Win s q a k) (hn : (runS s (begS s a)).2.2 ≠ stS s (begS s a)) (hk : (runS s (begS s a)).2.2 ≤ a + k) :
    negS q 0 = negS s a ∧ begS q 0 + a = begS s a ∧ stS q (begS q 0) + a = stS s (begS s a) ∧ runS q (begS q 0) = ((runS s (begS s a)).1, (runS s (begS s a)).2.1, (runS s (begS s a)).2.2 - a) := by
  have hq := h.size
  have hle := h.le
  have hst0 : begS s a ≤ stS s (begS s a) := by unfold stS; split <;> omega
  have hb0 : a ≤ begS s a := by unfold begS; split <;> omega
  have hrun := dgo_le s (baseS s (begS s a)) (s.size - stS s (begS s a)) (stS s (begS s a)) 0 false
  have hr1 : stS s (begS s a) < (runS s (begS s a)).2.2 := Nat.lt_of_le_of_ne hrun (Ne.symm hn)
  have hk1 : 0 < k := by omega
  have hneg : negS q 0 = negS s a := by
    unfold negS
    have := h.at' 0 hk1
    rw [show tk q ((0 : Nat) : Int) = tk s a from this, hq]
    rw [show decide (0 < k) = decide (a < s.size) from decide_eq_decide.2 (by omega)]
  have hbeg : begS q 0 + a = begS s a := by
    unfold begS; rw [hneg]; split <;> omega
  have hhex : hexS q (begS q 0) = hexS s (begS s a) := by
    rw [← hbeg]
    by_cases hs2 : begS q 0 + 2 < k
    · have t0 := h.at' (begS q 0) (by omega)
      have t1 := h.at' (begS q 0 + 1) (by omega)
      have t2 := h.at' (begS q 0 + 2) hs2
      rw [hexS_eq, hexS_eq, hq, t0, t1, t2, Nat.add_comm (begS q 0) a, Nat.add_assoc, Nat.add_assoc]
      congr 1
      rw [decide_eq_decide]
      omega
    · have e1 : hexS q (begS q 0) = false := by
        cases hx : hexS q (begS q 0) with
        | false => rfl
        | true => have := hex_size hx; omega
      have e2 : hexS s (begS q 0 + a) = false := by
        cases hx : hexS s (begS q 0 + a) with
        | false => rfl
        | true =>
          rw [hbeg] at hx
          have : stS s (begS s a) = begS s a + 2 := by unfold stS; rw [if_pos hx]
          omega
      rw [e1, e2]
  have hst : stS q (begS q 0) + a = stS s (begS s a) := by
    unfold stS; rw [hhex]; split <;> omega
  have hbase : baseS q (begS q 0) = baseS s (begS s a) := by unfold baseS; rw [hhex]
  refine ⟨hneg, hbeg, hst, ?_⟩
  have hwin := dgo_win h (baseS s (begS s a)) (k - stS q (begS q 0)) (s.size - stS s (begS s a)) (stS q (begS q 0)) 0 false (by omega) (by
    rw [Nat.add_comm, hst]; exact hk) (by omega)
  rw [Nat.add_comm a, hst] at hwin
  unfold runS
  rw [hbase, hq]
  exact hwin

theorem next_win {s : ByteArray} {a : Int} (h : (nextS s a).2.2 = 0) : ∃ n : Nat, (nextS s a).2.1 = (n : Int) ∧ 0 ≤ a ∧ 1 ≤ n ∧ a.toNat + n ≤ s.size ∧
    ∀ k q, n ≤ k → Win s q a.toNat k → nextS q 0 = nextS s a ∧ lenS q = n := by
  unfold nextS at h
  by_cases ha : a < 0 ∨ a > s.size
  · rw [if_pos ha] at h; cases h
  rw [if_neg ha] at h
  have hns : nextS s a = nextAt s a.toNat := by unfold nextS; rw [if_neg ha]
  have hle : a.toNat ≤ s.size := by omega
  generalize hA : a.toNat = A at *
  have hn : (runS s (begS s A)).2.2 ≠ stS s (begS s A) := fun e => by unfold nextAt at h; rw [if_pos e] at h; cases h
  have hbig : ((runS s (begS s A)).2.1 || (negS s A && decide ((runS s (begS s A)).1 > 9223372036854775808))) = false := by
    cases hb : ((runS s (begS s A)).2.1 || (negS s A && decide ((runS s (begS s A)).1 > 9223372036854775808))) with
    | false => rfl
    | true => unfold nextAt at h; rw [if_neg hn, if_pos hb] at h; cases h
  have hst0 : begS s A ≤ stS s (begS s A) := by unfold stS; split <;> omega
  have hb0 : A ≤ begS s A := by unfold begS; split <;> omega
  have hrun := dgo_le s (baseS s (begS s A)) (s.size - stS s (begS s A)) (stS s (begS s A)) 0 false
  have hend := dgo_end s (baseS s (begS s A)) (s.size - stS s (begS s A)) (stS s (begS s A)) 0 false
  have hr1 : stS s (begS s A) < (runS s (begS s A)).2.2 := Nat.lt_of_le_of_ne hrun (Ne.symm hn)
  have hstl : stS s (begS s A) ≤ s.size := by
    by_cases c : stS s (begS s A) ≤ s.size
    · exact c
    · have h0 : s.size - stS s (begS s A) = 0 := by omega
      exfalso
      apply hn
      unfold runS
      rw [h0]; rfl
  have hE : (runS s (begS s A)).2.2 ≤ s.size := by unfold runS; omega
  refine ⟨(runS s (begS s A)).2.2 - A, ?_, by omega, by omega, by omega, fun k q hk hw => ?_⟩
  · rw [hns]; unfold nextAt
    rw [if_neg hn, hbig]; rfl
  · obtain ⟨e1, e2, e3, e4⟩ := run_win hw hn (by omega)
    have hnq : (runS q (begS q 0)).2.2 ≠ stS q (begS q 0) := by rw [e4]; show _ - A ≠ _; omega
    refine ⟨?_, ?_⟩
    · have h0 : nextS q 0 = nextAt q 0 := by unfold nextS; rw [if_neg (by omega)]; rfl
      rw [h0, hns]
      unfold nextAt
      rw [if_neg hn, if_neg hnq, e1, e4]
      rfl
    · unfold lenS; rw [e4]

/-- Those bytes are the number; one more, and it is none. -/
theorem parse_win {s : ByteArray} {a : Int} (h : (nextS s a).2.2 = 0) : ∃ n : Nat, (nextS s a).2.1 = (n : Int) ∧ 0 ≤ a ∧ 1 ≤ n ∧ a.toNat + n ≤ s.size ∧ parseS (s.extract a.toNat (a.toNat + n)) = ((nextS s a).1, 0) ∧
    (a.toNat + n ≠ s.size → parseS (s.extract a.toNat (a.toNat + (n + 1))) = (0, 40)) := by
  obtain ⟨n, h1, h2, h3, h4, h5⟩ := next_win h
  refine ⟨n, h1, h2, h3, h4, ?_, fun hne => ?_⟩
  · have hw := win_cut s a.toNat n h4
    obtain ⟨e1, e2⟩ := h5 n _ (Nat.le_refl _) hw
    unfold parseS
    rw [e1, h, e2, hw.size]
    simp
  · have hw := win_cut s a.toNat (n + 1) (by omega)
    obtain ⟨e1, e2⟩ := h5 (n + 1) _ (by omega) hw
    unfold parseS
    rw [e1, h, e2, hw.size]
    simp
    omega
theorem next_err0 {s : ByteArray} {a : Int} (h : (nextS s a).2.2 ≠ 0) : (nextS s a).1 = 0 ∧ (nextS s a).2.1 = 0 := by
  unfold nextS at h ⊢
  split at h
  · rename_i c; rw [if_pos c]; exact ⟨rfl, rfl⟩
  · rename_i c
    rw [if_neg c]
    unfold nextAt at h ⊢
    split at h
    · rename_i c2; rw [if_pos c2]; exact ⟨rfl, rfl⟩
    · rename_i c2
      rw [if_neg c2]
      split at h
      · rename_i c3; rw [if_pos c3]; exact ⟨rfl, rfl⟩
      · exact absurd rfl h
end Go.Proofs.YtpfanhbkjajocaaDoor

/-
  The count of a word's one bits, as math/bits reckons it: fields of bits summed side by side. Plain arithmetic; of no program. Own work.
-/
namespace Go.AM

/-- How many of the first n bits are one. -/
def pop : Nat → Nat → Nat
  | 0, _ => 0
  | n + 1, x => x % 2 + pop n (x / 2)

def dsum (k : Nat) : Nat → Nat → Nat
  | 0, _ => 0
  | m + 1, x => x % 2 ^ k + dsum k m (x / 2 ^ k)

def dle (k : Nat) (B : Nat) : Nat → Nat → Prop
  | 0, _ => True
  | m + 1, x => x % 2 ^ k ≤ B ∧ dle k B m (x / 2 ^ k)

def msk (k : Nat) : Nat → Nat
  | 0 => 0
  | m + 1 => (2 ^ k - 1) + 2 ^ (2 * k) * msk k m

def st (k m x : Nat) : Nat := ((x / 2 ^ k) &&& msk k m) + (x &&& msk k m)

theorem and_split (j x c d : Nat) (hc : c < 2 ^ j) : x &&& (c + 2 ^ j * d) = ((x % 2 ^ j) &&& c) + 2 ^ j * ((x / 2 ^ j) &&& d) := by
  have h1 : (x % 2 ^ j) &&& c < 2 ^ j := Nat.and_lt_two_pow _ hc
  apply Nat.eq_of_testBit_eq
  intro i
  rw [Nat.add_comm c, Nat.add_comm (_ &&& c), Nat.testBit_and, Nat.testBit_two_pow_mul_add _ hc, Nat.testBit_two_pow_mul_add _ h1]
  by_cases hi : i < j
  · simp [hi, Nat.testBit_mod_two_pow]
  · simp only [hi, if_false, Nat.testBit_and, Nat.testBit_div_two_pow]
    rw [show i - j + j = i by omega]

theorem st_succ (k m x : Nat) (hk : 0 < k) : st k (m + 1) x = (x % 2 ^ k + x / 2 ^ k % 2 ^ k) + 2 ^ (2 * k) * st k m (x / 2 ^ (2 * k)) := by
  have hp : 2 ^ (2 * k) = 2 ^ k * 2 ^ k := by rw [Nat.two_mul, Nat.pow_add]
  have hpos : 0 < 2 ^ k := Nat.two_pow_pos k
  have hc : 2 ^ k - 1 < 2 ^ (2 * k) := by
    have : 2 ^ k ≤ 2 ^ k * 2 ^ k := Nat.le_mul_of_pos_right _ hpos
    omega
  unfold st
  simp only [msk]
  rw [and_split _ _ _ _ hc, and_split _ _ _ _ hc, Nat.and_two_pow_sub_one_eq_mod, Nat.and_two_pow_sub_one_eq_mod]
  have e1 : x / 2 ^ k % 2 ^ (2 * k) % 2 ^ k = x / 2 ^ k % 2 ^ k := by rw [hp, Nat.mod_mul_right_mod]
  have e2 : x % 2 ^ (2 * k) % 2 ^ k = x % 2 ^ k := by rw [hp, Nat.mod_mul_right_mod]
  have e3 : x / 2 ^ k / 2 ^ (2 * k) = x / 2 ^ (2 * k) / 2 ^ k := by rw [Nat.div_div_eq_div_mul, Nat.div_div_eq_div_mul, Nat.mul_comm]
  rw [e1, e2, e3, Nat.mul_add]
  omega

theorem two_lt (k : Nat) (hk : 0 < k) : 2 ^ k - 1 + (2 ^ k - 1) < 2 ^ (2 * k) := by
  have hp : 2 ^ (2 * k) = 2 ^ k * 2 ^ k := by rw [Nat.two_mul, Nat.pow_add]
  have h2 : 2 ≤ 2 ^ k := by
    have : 2 ^ 1 ≤ 2 ^ k := Nat.pow_le_pow_right (by decide) hk
    simpa using this
  have : 2 * 2 ^ k ≤ 2 ^ k * 2 ^ k := Nat.mul_le_mul_right _ h2
  omega

theorem st_parts (k m x : Nat) (hk : 0 < k) : st k (m + 1) x % 2 ^ (2 * k) = x % 2 ^ k + x / 2 ^ k % 2 ^ k ∧ st k (m + 1) x / 2 ^ (2 * k) = st k m (x / 2 ^ (2 * k)) := by
  rw [st_succ k m x hk]
  have h1 := Nat.mod_lt x (Nat.two_pow_pos k)
  have h2 := Nat.mod_lt (x / 2 ^ k) (Nat.two_pow_pos k)
  have h3 := two_lt k hk
  have hlt : x % 2 ^ k + x / 2 ^ k % 2 ^ k < 2 ^ (2 * k) := by omega
  constructor
  · rw [Nat.add_mul_mod_self_left, Nat.mod_eq_of_lt hlt]
  · rw [Nat.add_mul_div_left _ _ (Nat.two_pow_pos _), Nat.div_eq_of_lt hlt, Nat.zero_add]

theorem div_two (k x : Nat) : x / 2 ^ k / 2 ^ k = x / 2 ^ (2 * k) := by rw [Nat.div_div_eq_div_mul, ← Nat.pow_add, Nat.two_mul]

theorem dsum_st (k : Nat) (hk : 0 < k) : ∀ m x, dsum (2 * k) m (st k m x) = dsum k (2 * m) x
  | 0, x => rfl
  | m + 1, x => by
    obtain ⟨h1, h2⟩ := st_parts k m x hk
    rw [show 2 * (m + 1) = 2 * m + 1 + 1 by omega]
    simp only [dsum]
    rw [h1, h2, dsum_st k hk m, div_two]
    omega

theorem dle_st (k B : Nat) (hk : 0 < k) : ∀ m x, dle k B (2 * m) x → dle (2 * k) (2 * B) m (st k m x)
  | 0, x, _ => trivial
  | m + 1, x, h => by
    obtain ⟨h1, h2⟩ := st_parts k m x hk
    rw [show 2 * (m + 1) = 2 * m + 1 + 1 by omega] at h
    simp only [dle] at h ⊢
    rw [h1, h2]
    refine ⟨by omega, dle_st k B hk m _ ?_⟩
    rw [← div_two]; exact h.2.2

/-- Where the fields are small the sum can be masked once. -/
theorem once (k B : Nat) (hk : 0 < k) (hB : 2 * B < 2 ^ k) : ∀ m x, dle k B (2 * m) x → x < 2 ^ (2 * k * m) → (x / 2 ^ k + x) &&& msk k m = st k m x
  | 0, x, _, _ => by simp [st, msk]
  | m + 1, x, h, hx => by
    have hp : 2 ^ (2 * k) = 2 ^ k * 2 ^ k := by rw [Nat.two_mul, Nat.pow_add]
    have hpos : 0 < 2 ^ k := Nat.two_pow_pos k
    have hc : 2 ^ k - 1 < 2 ^ (2 * k) := by
      have : 2 ^ k ≤ 2 ^ k * 2 ^ k := Nat.le_mul_of_pos_right _ hpos
      omega
    rw [show 2 * (m + 1) = 2 * m + 1 + 1 by omega] at h
    simp only [dle] at h
    obtain ⟨ha, hb, hr⟩ := h
    rw [div_two] at hr
    have hx' : x / 2 ^ (2 * k) < 2 ^ (2 * k * m) := by
      rw [Nat.div_lt_iff_lt_mul (Nat.two_pow_pos _), ← Nat.pow_add]
      rwa [show 2 * k * m + 2 * k = 2 * k * (m + 1) by rw [Nat.mul_add, Nat.mul_one]]
    have hlow : (x / 2 ^ (2 * k)) % 2 ^ k ≤ B := by
      cases m with
      | zero =>
        have h0 : x / 2 ^ (2 * k) = 0 := by
          have h1 : 2 ^ (2 * k * 0) = 1 := rfl
          rw [h1] at hx'; exact Nat.lt_one_iff.1 hx'
        rw [h0]; simp
      | succ m =>
        rw [show 2 * (m + 1) = 2 * m + 1 + 1 by omega] at hr
        simp only [dle] at hr
        exact hr.1
    have ih := once k B hk hB m _ hr hx'
    rw [st_succ k m x hk, ← ih]
    simp only [msk]
    rw [and_split _ _ _ _ hc, Nat.and_two_pow_sub_one_eq_mod]
    -- the fields of x
    generalize hd0 : x % 2 ^ k = d0 at *
    generalize hd1 : x / 2 ^ k % 2 ^ k = d1 at *
    generalize hx2 : x / 2 ^ (2 * k) = x2 at *
    have e1 : x / 2 ^ k = d1 + 2 ^ k * x2 := by rw [← hd1, ← hx2, ← div_two]; exact (Nat.mod_add_div _ _).symm
    have e0 : x = d0 + 2 ^ k * (d1 + 2 ^ k * x2) := by rw [← e1, ← hd0]; exact (Nat.mod_add_div _ _).symm
    have eS : x / 2 ^ k + x = (d0 + d1) + 2 ^ k * (x2 + d1 + 2 ^ k * x2) := by
      rw [e1]; conv => lhs; rw [e0]
      simp only [Nat.mul_add]
      omega
    have q1 : (x / 2 ^ k + x) % 2 ^ (2 * k) % 2 ^ k = d0 + d1 := by
      rw [hp, Nat.mod_mul_right_mod, eS, Nat.add_mul_mod_self_left, Nat.mod_eq_of_lt (by omega)]
    have q2 : (x / 2 ^ k + x) / 2 ^ (2 * k) = x2 / 2 ^ k + x2 := by
      rw [eS, hp, ← Nat.div_div_eq_div_mul, Nat.add_mul_div_left _ _ hpos, Nat.div_eq_of_lt (show d0 + d1 < 2 ^ k by omega), Nat.zero_add, Nat.add_mul_div_left _ _ hpos]
      congr 1
      have : x2 + d1 = (x2 % 2 ^ k + d1) + 2 ^ k * (x2 / 2 ^ k) := by have := Nat.mod_add_div x2 (2 ^ k); omega
      rw [this, Nat.add_mul_div_left _ _ hpos, Nat.div_eq_of_lt (show x2 % 2 ^ k + d1 < 2 ^ k by omega), Nat.zero_add]
    rw [q1, q2]

theorem st_lt (k : Nat) (hk : 0 < k) : ∀ m x, st k m x < 2 ^ (2 * k * m)
  | 0, x => by simp [st, msk]
  | m + 1, x => by
    obtain ⟨h1, h2⟩ := st_parts k m x hk
    rw [show 2 * k * (m + 1) = 2 * k * m + 2 * k by rw [Nat.mul_add, Nat.mul_one], Nat.pow_add, ← Nat.div_lt_iff_lt_mul (Nat.two_pow_pos _), h2]
    exact st_lt k hk m _

theorem dle_bits : ∀ m x, dle 1 1 m x
  | 0, _ => trivial
  | m + 1, x => ⟨by have := Nat.mod_lt x (show 0 < 2 ^ 1 by decide); omega, dle_bits m _⟩

theorem dsum_bits : ∀ m x, dsum 1 m x = pop m x
  | 0, _ => rfl
  | m + 1, x => by simp only [dsum, pop, Nat.pow_one, dsum_bits m]

theorem msk0 : msk 1 32 = 6148914691236517205 := by decide
theorem msk1 : msk 2 16 = 3689348814741910323 := by decide
theorem msk2 : msk 4 8 = 1085102592571150095 := by decide

/-- The last three sums: eight small bytes. -/
theorem bytes_sum (x : Nat) (h : dle 8 8 8 x) (hx : x < 18446744073709551616) :
    (let y := (x + x / 256) % 18446744073709551616
     let z := (y + y / 65536) % 18446744073709551616
     (z + z / 4294967296) % 18446744073709551616) % 128 = dsum 8 8 x := by
  simp only [dle, dsum, Nat.reducePow] at h ⊢
  obtain ⟨h0, h1, h2, h3, h4, h5, h6, h7, -⟩ := h
  generalize hx1 : x / 256 = x1 at *
  generalize hx2 : x1 / 256 = x2 at *
  generalize hx3 : x2 / 256 = x3 at *
  generalize hx4 : x3 / 256 = x4 at *
  generalize hx5 : x4 / 256 = x5 at *
  generalize hx6 : x5 / 256 = x6 at *
  generalize hx7 : x6 / 256 = x7 at *
  obtain ⟨c0, e0⟩ : ∃ c, c = x % 256 := ⟨_, rfl⟩
  obtain ⟨c1, e1⟩ : ∃ c, c = x1 % 256 := ⟨_, rfl⟩
  obtain ⟨c2, e2⟩ : ∃ c, c = x2 % 256 := ⟨_, rfl⟩
  obtain ⟨c3, e3⟩ : ∃ c, c = x3 % 256 := ⟨_, rfl⟩
  obtain ⟨c4, e4⟩ : ∃ c, c = x4 % 256 := ⟨_, rfl⟩
  obtain ⟨c5, e5⟩ : ∃ c, c = x5 % 256 := ⟨_, rfl⟩
  obtain ⟨c6, e6⟩ : ∃ c, c = x6 % 256 := ⟨_, rfl⟩
  obtain ⟨c7, e7⟩ : ∃ c, c = x7 % 256 := ⟨_, rfl⟩
  have k7 : x7 = c7 := by omega
  have k6 : x6 = c6 + 256 * c7 := by omega
  have k5 : x5 = c5 + 256 * x6 := by omega
  have k4 : x4 = c4 + 256 * x5 := by omega
  have k3 : x3 = c3 + 256 * x4 := by omega
  have k2 : x2 = c2 + 256 * x3 := by omega
  have k1 : x1 = c1 + 256 * x2 := by omega
  have k0 : x = c0 + 256 * x1 := by omega
  rw [← e0, ← e1, ← e2, ← e3, ← e4, ← e5, ← e6, ← e7]
  rw [← e0] at h0
  rw [← e1] at h1
  rw [← e2] at h2
  rw [← e3] at h3
  rw [← e4] at h4
  rw [← e5] at h5
  rw [← e6] at h6
  rw [← e7] at h7
  clear e0 e1 e2 e3 e4 e5 e6 e7 hx1 hx2 hx3 hx4 hx5 hx6 hx7 hx
  have hx1 : x1 = c1 + 256 * c2 + 65536 * c3 + 16777216 * c4 + 4294967296 * c5 + 1099511627776 * c6 + 281474976710656 * c7 := by omega
  have y1 : (x + x1) % 18446744073709551616 = (c0 + c1) + 256 * (c1 + c2) + 65536 * (c2 + c3) + 16777216 * (c3 + c4) + 4294967296 * (c4 + c5) + 1099511627776 * (c5 + c6) + 281474976710656 * (c6 + c7) + 72057594037927936 * c7 := by omega
  clear hx1 k0 k1 k2 k3 k4 k5 k6 k7
  rw [y1]
  clear y1
  generalize hy : (c0 + c1) + 256 * (c1 + c2) + 65536 * (c2 + c3) + 16777216 * (c3 + c4) + 4294967296 * (c4 + c5) + 1099511627776 * (c5 + c6) + 281474976710656 * (c6 + c7) + 72057594037927936 * c7 = y
  have y2 : y / 65536 = (c2 + c3) + 256 * (c3 + c4) + 65536 * (c4 + c5) + 16777216 * (c5 + c6) + 4294967296 * (c6 + c7) + 1099511627776 * c7 := by omega
  have z1 : (y + y / 65536) % 18446744073709551616 = (c0 + c1 + c2 + c3) + 256 * (c1 + c2 + c3 + c4) + 65536 * (c2 + c3 + c4 + c5) + 16777216 * (c3 + c4 + c5 + c6) + 4294967296 * (c4 + c5 + c6 + c7) + 1099511627776 * (c5 + c6 + c7) + 281474976710656 * (c6 + c7) + 72057594037927936 * c7 := by omega
  rw [z1]
  clear z1 y2 hy
  generalize hz : (c0 + c1 + c2 + c3) + 256 * (c1 + c2 + c3 + c4) + 65536 * (c2 + c3 + c4 + c5) + 16777216 * (c3 + c4 + c5 + c6) + 4294967296 * (c4 + c5 + c6 + c7) + 1099511627776 * (c5 + c6 + c7) + 281474976710656 * (c6 + c7) + 72057594037927936 * c7 = z
  have z2 : z / 4294967296 = (c4 + c5 + c6 + c7) + 256 * (c5 + c6 + c7) + 65536 * (c6 + c7) + 16777216 * c7 := by omega
  omega

/-- bits.OnesCount64's own reckoning, over numbers. -/
theorem pop_swar (x : Nat) (hx : x < 18446744073709551616) :
    (let a := ((x / 2 &&& 6148914691236517205) + (x &&& 6148914691236517205)) % 18446744073709551616
     let b := ((a / 4 &&& 3689348814741910323) + (a &&& 3689348814741910323)) % 18446744073709551616
     let c := (b / 16 + b) % 18446744073709551616 &&& 1085102592571150095
     let y := (c + c / 256) % 18446744073709551616
     let z := (y + y / 65536) % 18446744073709551616
     (z + z / 4294967296) % 18446744073709551616) % 128 = pop 64 x := by
  have ha : (x / 2 &&& 6148914691236517205) + (x &&& 6148914691236517205) = st 1 32 x := by unfold st; rw [msk0]
  have la := st_lt 1 (by decide) 32 x
  have hb : (st 1 32 x / 4 &&& 3689348814741910323) + (st 1 32 x &&& 3689348814741910323) = st 2 16 (st 1 32 x) := by
    rw [← msk1]; rfl
  have lb := st_lt 2 (by decide) 16 (st 1 32 x)
  have d1 := dle_bits 64 x
  have d2 := dle_st 1 1 (by decide) 32 x d1
  have d3 := dle_st 2 2 (by decide) 16 _ d2
  have hc := once 4 4 (by decide) (by decide) 8 _ d3 (by simpa using lb)
  have d4 := dle_st 4 4 (by decide) 8 _ d3
  have lc := st_lt 4 (by decide) 8 (st 2 16 (st 1 32 x))
  have s1 := dsum_st 1 (by decide) 32 x
  have s2 := dsum_st 2 (by decide) 16 (st 1 32 x)
  have s3 := dsum_st 4 (by decide) 8 (st 2 16 (st 1 32 x))
  simp only [Nat.reduceMul, Nat.reducePow] at *
  rw [ha, Nat.mod_eq_of_lt la, hb, Nat.mod_eq_of_lt lb]
  rw [← dsum_bits, ← s1, ← s2, ← s3, ← bytes_sum _ d4 lc]
  generalize hg : st 2 16 (st 1 32 x) = b at *
  have hsm : b / 16 + b < 18446744073709551616 := by
    simp only [dle, Nat.reducePow] at d3
    omega
  rw [Nat.mod_eq_of_lt hsm]
  rw [msk2] at hc
  rw [hc]

theorem pop_le : ∀ n x, pop n x ≤ n
  | 0, _ => Nat.le_refl _
  | n + 1, x => by have := pop_le n (x / 2); simp only [pop]; omega

end Go.AM
