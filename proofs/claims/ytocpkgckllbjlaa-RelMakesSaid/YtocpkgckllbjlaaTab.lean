/- The table of this seat's types, as the program has them. Printed by a program of our own off the translation. -/
import Derived.Test.YtocpkgckllbjlaaAM2
import Derived.Test.YtocpkgckllbjlaaProg
import Derived.KernelRfl
namespace Go.Proofs.Ytocpkgckllbjlaa
open Go.AM

def ti1 : TI := ⟨.func #[] #[] false, 1, 8, .nilFunc⟩
def ti2 : TI := ⟨.int .i64, 1, 8, (.int .i64 0)⟩
def ti3 : TI := ⟨.int .i64, 1, 8, (.int .i64 0)⟩
def ti4 : TI := ⟨.bool, 1, 1, (.bool false)⟩
def ti5 : TI := ⟨.int .u8, 1, 1, (.int .u8 0)⟩
def ti9 : TI := ⟨.string, 1, 16, (.string ⟨#[]⟩)⟩
def ti12 : TI := ⟨.int .u64, 1, 8, (.int .u64 0)⟩
def z13 : List Value := [(.string ⟨#[]⟩)] ++ [(.int .u64 0)]
def ti13 : TI := ⟨.struct #[{ name := "msg", type := 9, offset := 0, embedded := false, tag := "", pkgPath := "runtime", byteOffset := 0 }, { name := "addr", type := 12, offset := 1, embedded := false, tag := "", pkgPath := "runtime", byteOffset := 16 }], 2, 24, .agg z13.toArray⟩
def z19 : List Value := [(.pointer none)]
def ti19 : TI := ⟨.struct #[{ name := "typ", type := 17, offset := 0, embedded := false, tag := "", pkgPath := "internal/runtime/maps", byteOffset := 0 }], 1, 8, .agg z19.toArray⟩
def ti21 : TI := ⟨.int .i32, 1, 4, (.int .i32 0)⟩
def ti22 : TI := ⟨.int .u64, 1, 8, (.int .u64 0)⟩
def z23 : List Value := List.replicate 64 (.int .u64 0)
def ti23 : TI := ⟨.array 64 22, 64, 512, .agg z23.toArray⟩
def z24 : List Value := [(.int .i64 0)] ++ List.replicate 64 (.int .u64 0)
def ti24 : TI := ⟨.struct #[{ name := "N", type := 3, offset := 0, embedded := false, tag := "", pkgPath := "", byteOffset := 0 }, { name := "Rows", type := 23, offset := 1, embedded := false, tag := "", pkgPath := "", byteOffset := 8 }], 65, 520, .agg z24.toArray⟩
def z25 : List Value := [(.int .i64 0)] ++ List.replicate 64 (.int .u64 0)
def ti25 : TI := ⟨.struct #[{ name := "N", type := 3, offset := 0, embedded := false, tag := "", pkgPath := "", byteOffset := 0 }, { name := "Rows", type := 23, offset := 1, embedded := false, tag := "", pkgPath := "", byteOffset := 8 }], 65, 520, .agg z25.toArray⟩
def ti26 : TI := ⟨.slice 29, 1, 24, (.slice none 0 0)⟩
def ti27 : TI := ⟨.int .u64, 1, 8, (.int .u64 0)⟩
def z28 : List Value := [(.int .i64 0), (.int .i64 0)]
def ti28 : TI := ⟨.struct #[{ name := "A", type := 3, offset := 0, embedded := false, tag := "", pkgPath := "", byteOffset := 0 }, { name := "B", type := 3, offset := 1, embedded := false, tag := "", pkgPath := "", byteOffset := 8 }], 2, 16, .agg z28.toArray⟩
def z29 : List Value := [(.int .i64 0), (.int .i64 0)]
def ti29 : TI := ⟨.struct #[{ name := "A", type := 3, offset := 0, embedded := false, tag := "", pkgPath := "", byteOffset := 0 }, { name := "B", type := 3, offset := 1, embedded := false, tag := "", pkgPath := "", byteOffset := 8 }], 2, 16, .agg z29.toArray⟩
def ti30 : TI := ⟨.int .i64, 1, 8, (.int .i64 0)⟩
def ti32 : TI := ⟨.func #[3, 26] #[25, 30] false, 1, 8, .nilFunc⟩
def ti34 : TI := ⟨.func #[3, 26] #[25, 3] false, 1, 8, .nilFunc⟩
def ti35 : TI := ⟨.func #[30] #[3] false, 1, 8, .nilFunc⟩
def ti36 : TI := ⟨.func #[25] #[30] false, 1, 8, .nilFunc⟩
def ti37 : TI := ⟨.func #[25] #[3] false, 1, 8, .nilFunc⟩
def ti38 : TI := ⟨.func #[26, 26] #[4] false, 1, 8, .nilFunc⟩
def ti39 : TI := ⟨.func #[3, 27, 27] #[25] false, 1, 8, .nilFunc⟩
def ti40 : TI := ⟨.func #[3, 27] #[25] false, 1, 8, .nilFunc⟩
def ti41 : TI := ⟨.func #[25, 3, 26, 27, 27] #[4] false, 1, 8, .nilFunc⟩
def ti42 : TI := ⟨.func #[3] #[22] false, 1, 8, .nilFunc⟩
def ti43 : TI := ⟨.func #[27, 3] #[4] false, 1, 8, .nilFunc⟩
def ti44 : TI := ⟨.func #[] #[9] false, 1, 8, .nilFunc⟩
def ti50 : TI := ⟨.func #[] #[3] false, 1, 8, .nilFunc⟩
def ti51 : TI := ⟨.int .u32, 1, 4, (.int .u32 0)⟩
def ti54 : TI := ⟨.func #[60, 60] #[4] false, 1, 8, .nilFunc⟩
def ti55 : TI := ⟨.pointer 5, 1, 8, (.pointer none)⟩
def tab : Tab := [(1, ti1), (2, ti2), (3, ti3), (4, ti4), (5, ti5), (9, ti9), (12, ti12), (13, ti13), (19, ti19), (21, ti21), (22, ti22), (23, ti23), (24, ti24), (25, ti25), (26, ti26), (27, ti27), (28, ti28), (29, ti29), (30, ti30), (32, ti32), (34, ti34), (35, ti35), (36, ti36), (37, ti37), (38, ti38), (39, ti39), (40, ti40), (41, ti41), (42, ti42), (43, ti43), (44, ti44), (50, ti50), (51, ti51), (54, ti54), (55, ti55)]
set_option maxRecDepth 100000
theorem tab_ok0 : tabOK Try.prog [] := tabOK_nil _
theorem tab_a55 : Try.prog.underlying 55 = some ti55.d := by kernel_rfl
theorem tab_b55 : (Try.prog.info? 55).map (fun x => (x.zero, x.size, x.bytes)) = some (some ti55.zero, ti55.size, ti55.bytes) := by kernel_rfl
theorem tab_a54 : Try.prog.underlying 54 = some ti54.d := by kernel_rfl
theorem tab_b54 : (Try.prog.info? 54).map (fun x => (x.zero, x.size, x.bytes)) = some (some ti54.zero, ti54.size, ti54.bytes) := by kernel_rfl
theorem tab_a51 : Try.prog.underlying 51 = some ti51.d := by kernel_rfl
theorem tab_b51 : (Try.prog.info? 51).map (fun x => (x.zero, x.size, x.bytes)) = some (some ti51.zero, ti51.size, ti51.bytes) := by kernel_rfl
theorem tab_a50 : Try.prog.underlying 50 = some ti50.d := by kernel_rfl
theorem tab_b50 : (Try.prog.info? 50).map (fun x => (x.zero, x.size, x.bytes)) = some (some ti50.zero, ti50.size, ti50.bytes) := by kernel_rfl
theorem tab_a44 : Try.prog.underlying 44 = some ti44.d := by kernel_rfl
theorem tab_b44 : (Try.prog.info? 44).map (fun x => (x.zero, x.size, x.bytes)) = some (some ti44.zero, ti44.size, ti44.bytes) := by kernel_rfl
theorem tab_a43 : Try.prog.underlying 43 = some ti43.d := by kernel_rfl
theorem tab_b43 : (Try.prog.info? 43).map (fun x => (x.zero, x.size, x.bytes)) = some (some ti43.zero, ti43.size, ti43.bytes) := by kernel_rfl
theorem tab_a42 : Try.prog.underlying 42 = some ti42.d := by kernel_rfl
theorem tab_b42 : (Try.prog.info? 42).map (fun x => (x.zero, x.size, x.bytes)) = some (some ti42.zero, ti42.size, ti42.bytes) := by kernel_rfl
theorem tab_a41 : Try.prog.underlying 41 = some ti41.d := by kernel_rfl
theorem tab_b41 : (Try.prog.info? 41).map (fun x => (x.zero, x.size, x.bytes)) = some (some ti41.zero, ti41.size, ti41.bytes) := by kernel_rfl
theorem tab_a40 : Try.prog.underlying 40 = some ti40.d := by kernel_rfl
theorem tab_b40 : (Try.prog.info? 40).map (fun x => (x.zero, x.size, x.bytes)) = some (some ti40.zero, ti40.size, ti40.bytes) := by kernel_rfl
theorem tab_a39 : Try.prog.underlying 39 = some ti39.d := by kernel_rfl
theorem tab_b39 : (Try.prog.info? 39).map (fun x => (x.zero, x.size, x.bytes)) = some (some ti39.zero, ti39.size, ti39.bytes) := by kernel_rfl
theorem tab_a38 : Try.prog.underlying 38 = some ti38.d := by kernel_rfl
theorem tab_b38 : (Try.prog.info? 38).map (fun x => (x.zero, x.size, x.bytes)) = some (some ti38.zero, ti38.size, ti38.bytes) := by kernel_rfl
theorem tab_a37 : Try.prog.underlying 37 = some ti37.d := by kernel_rfl
theorem tab_b37 : (Try.prog.info? 37).map (fun x => (x.zero, x.size, x.bytes)) = some (some ti37.zero, ti37.size, ti37.bytes) := by kernel_rfl
theorem tab_a36 : Try.prog.underlying 36 = some ti36.d := by kernel_rfl
theorem tab_b36 : (Try.prog.info? 36).map (fun x => (x.zero, x.size, x.bytes)) = some (some ti36.zero, ti36.size, ti36.bytes) := by kernel_rfl
theorem tab_a35 : Try.prog.underlying 35 = some ti35.d := by kernel_rfl
theorem tab_b35 : (Try.prog.info? 35).map (fun x => (x.zero, x.size, x.bytes)) = some (some ti35.zero, ti35.size, ti35.bytes) := by kernel_rfl
theorem tab_a34 : Try.prog.underlying 34 = some ti34.d := by kernel_rfl
theorem tab_b34 : (Try.prog.info? 34).map (fun x => (x.zero, x.size, x.bytes)) = some (some ti34.zero, ti34.size, ti34.bytes) := by kernel_rfl
theorem tab_a32 : Try.prog.underlying 32 = some ti32.d := by kernel_rfl
theorem tab_b32 : (Try.prog.info? 32).map (fun x => (x.zero, x.size, x.bytes)) = some (some ti32.zero, ti32.size, ti32.bytes) := by kernel_rfl
theorem tab_a30 : Try.prog.underlying 30 = some ti30.d := by kernel_rfl
theorem tab_b30 : (Try.prog.info? 30).map (fun x => (x.zero, x.size, x.bytes)) = some (some ti30.zero, ti30.size, ti30.bytes) := by kernel_rfl
theorem tab_a29 : Try.prog.underlying 29 = some ti29.d := by kernel_rfl
theorem tab_b29 : (Try.prog.info? 29).map (fun x => (x.zero, x.size, x.bytes)) = some (some ti29.zero, ti29.size, ti29.bytes) := by kernel_rfl
theorem tab_a28 : Try.prog.underlying 28 = some ti28.d := by kernel_rfl
theorem tab_b28 : (Try.prog.info? 28).map (fun x => (x.zero, x.size, x.bytes)) = some (some ti28.zero, ti28.size, ti28.bytes) := by kernel_rfl
theorem tab_a27 : Try.prog.underlying 27 = some ti27.d := by kernel_rfl
theorem tab_b27 : (Try.prog.info? 27).map (fun x => (x.zero, x.size, x.bytes)) = some (some ti27.zero, ti27.size, ti27.bytes) := by kernel_rfl
theorem tab_a26 : Try.prog.underlying 26 = some ti26.d := by kernel_rfl
theorem tab_b26 : (Try.prog.info? 26).map (fun x => (x.zero, x.size, x.bytes)) = some (some ti26.zero, ti26.size, ti26.bytes) := by kernel_rfl
theorem tab_a25 : Try.prog.underlying 25 = some ti25.d := by kernel_rfl
theorem tab_b25 : (Try.prog.info? 25).map (fun x => (x.zero, x.size, x.bytes)) = some (some ti25.zero, ti25.size, ti25.bytes) := by kernel_rfl
theorem tab_a24 : Try.prog.underlying 24 = some ti24.d := by kernel_rfl
theorem tab_b24 : (Try.prog.info? 24).map (fun x => (x.zero, x.size, x.bytes)) = some (some ti24.zero, ti24.size, ti24.bytes) := by kernel_rfl
theorem tab_a23 : Try.prog.underlying 23 = some ti23.d := by kernel_rfl
theorem tab_b23 : (Try.prog.info? 23).map (fun x => (x.zero, x.size, x.bytes)) = some (some ti23.zero, ti23.size, ti23.bytes) := by kernel_rfl
theorem tab_a22 : Try.prog.underlying 22 = some ti22.d := by kernel_rfl
theorem tab_b22 : (Try.prog.info? 22).map (fun x => (x.zero, x.size, x.bytes)) = some (some ti22.zero, ti22.size, ti22.bytes) := by kernel_rfl
theorem tab_a21 : Try.prog.underlying 21 = some ti21.d := by kernel_rfl
theorem tab_b21 : (Try.prog.info? 21).map (fun x => (x.zero, x.size, x.bytes)) = some (some ti21.zero, ti21.size, ti21.bytes) := by kernel_rfl
theorem tab_a19 : Try.prog.underlying 19 = some ti19.d := by kernel_rfl
theorem tab_b19 : (Try.prog.info? 19).map (fun x => (x.zero, x.size, x.bytes)) = some (some ti19.zero, ti19.size, ti19.bytes) := by kernel_rfl
theorem tab_a13 : Try.prog.underlying 13 = some ti13.d := by kernel_rfl
theorem tab_b13 : (Try.prog.info? 13).map (fun x => (x.zero, x.size, x.bytes)) = some (some ti13.zero, ti13.size, ti13.bytes) := by kernel_rfl
theorem tab_a12 : Try.prog.underlying 12 = some ti12.d := by kernel_rfl
theorem tab_b12 : (Try.prog.info? 12).map (fun x => (x.zero, x.size, x.bytes)) = some (some ti12.zero, ti12.size, ti12.bytes) := by kernel_rfl
theorem tab_a9 : Try.prog.underlying 9 = some ti9.d := by kernel_rfl
theorem tab_b9 : (Try.prog.info? 9).map (fun x => (x.zero, x.size, x.bytes)) = some (some ti9.zero, ti9.size, ti9.bytes) := by kernel_rfl
theorem tab_a5 : Try.prog.underlying 5 = some ti5.d := by kernel_rfl
theorem tab_b5 : (Try.prog.info? 5).map (fun x => (x.zero, x.size, x.bytes)) = some (some ti5.zero, ti5.size, ti5.bytes) := by kernel_rfl
theorem tab_a4 : Try.prog.underlying 4 = some ti4.d := by kernel_rfl
theorem tab_b4 : (Try.prog.info? 4).map (fun x => (x.zero, x.size, x.bytes)) = some (some ti4.zero, ti4.size, ti4.bytes) := by kernel_rfl
theorem tab_a3 : Try.prog.underlying 3 = some ti3.d := by kernel_rfl
theorem tab_b3 : (Try.prog.info? 3).map (fun x => (x.zero, x.size, x.bytes)) = some (some ti3.zero, ti3.size, ti3.bytes) := by kernel_rfl
theorem tab_a2 : Try.prog.underlying 2 = some ti2.d := by kernel_rfl
theorem tab_b2 : (Try.prog.info? 2).map (fun x => (x.zero, x.size, x.bytes)) = some (some ti2.zero, ti2.size, ti2.bytes) := by kernel_rfl
theorem tab_a1 : Try.prog.underlying 1 = some ti1.d := by kernel_rfl
theorem tab_b1 : (Try.prog.info? 1).map (fun x => (x.zero, x.size, x.bytes)) = some (some ti1.zero, ti1.size, ti1.bytes) := by kernel_rfl
theorem tab_ok : tabOK Try.prog tab := tabOK_cons tab_a1 tab_b1 (tabOK_cons tab_a2 tab_b2 (tabOK_cons tab_a3 tab_b3 (tabOK_cons tab_a4 tab_b4 (tabOK_cons tab_a5 tab_b5 (tabOK_cons tab_a9 tab_b9 (tabOK_cons tab_a12 tab_b12 (tabOK_cons tab_a13 tab_b13 (tabOK_cons tab_a19 tab_b19 (tabOK_cons tab_a21 tab_b21 (tabOK_cons tab_a22 tab_b22 (tabOK_cons tab_a23 tab_b23 (tabOK_cons tab_a24 tab_b24 (tabOK_cons tab_a25 tab_b25 (tabOK_cons tab_a26 tab_b26 (tabOK_cons tab_a27 tab_b27 (tabOK_cons tab_a28 tab_b28 (tabOK_cons tab_a29 tab_b29 (tabOK_cons tab_a30 tab_b30 (tabOK_cons tab_a32 tab_b32 (tabOK_cons tab_a34 tab_b34 (tabOK_cons tab_a35 tab_b35 (tabOK_cons tab_a36 tab_b36 (tabOK_cons tab_a37 tab_b37 (tabOK_cons tab_a38 tab_b38 (tabOK_cons tab_a39 tab_b39 (tabOK_cons tab_a40 tab_b40 (tabOK_cons tab_a41 tab_b41 (tabOK_cons tab_a42 tab_b42 (tabOK_cons tab_a43 tab_b43 (tabOK_cons tab_a44 tab_b44 (tabOK_cons tab_a50 tab_b50 (tabOK_cons tab_a51 tab_b51 (tabOK_cons tab_a54 tab_b54 (tabOK_cons tab_a55 tab_b55 (tabOK_nil _)))))))))))))))))))))))))))))))))))
end Go.Proofs.Ytocpkgckllbjlaa
