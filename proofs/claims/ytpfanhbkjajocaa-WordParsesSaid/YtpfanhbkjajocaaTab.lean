/- The table of this seat's types, as the program has them. Printed by a program of our own off the translation. -/
import Derived.Test.YtpfanhbkjajocaaAM2
import Derived.Test.YtpfanhbkjajocaaProg
import Derived.KernelRfl
namespace Go.Proofs.Ytpfanhbkjajocaa
open Go.AM

def ti1 : TI := ⟨.func #[] #[] false, 1, 8, .nilFunc⟩
def ti2 : TI := ⟨.int .i64, 1, 8, (.int .i64 0)⟩
def ti3 : TI := ⟨.int .i64, 1, 8, (.int .i64 0)⟩
def ti4 : TI := ⟨.bool, 1, 1, (.bool false)⟩
def ti5 : TI := ⟨.int .u8, 1, 1, (.int .u8 0)⟩
def ti9 : TI := ⟨.string, 1, 16, (.string ⟨#[]⟩)⟩
def ti12 : TI := ⟨.int .u64, 1, 8, (.int .u64 0)⟩
def z13 : List Value := [(.string ⟨#[]⟩)] ++ [(.int .u64 0)]
def ti13 : TI := ⟨.struct #[{ name := "msg", type := 9, offset := 0, embedded := false, tag := "", pkgPath := "runtime", byteOffset := 0 }, { name := "addr", type := 12, offset := 1, embedded := false, tag := "", pkgPath := "runtime", byteOffset := 16 }], 2, 24, .agg z13.toArray⟩
def z19 : List Value := [(.pointer none)]
def ti19 : TI := ⟨.struct #[{ name := "typ", type := 17, offset := 0, embedded := false, tag := "", pkgPath := "internal/runtime/maps", byteOffset := 0 }], 1, 8, .agg z19.toArray⟩
def ti21 : TI := ⟨.int .i32, 1, 4, (.int .i32 0)⟩
def ti22 : TI := ⟨.int .i64, 1, 8, (.int .i64 0)⟩
def ti24 : TI := ⟨.func #[9, 3] #[2, 3, 22] false, 1, 8, .nilFunc⟩
def ti26 : TI := ⟨.func #[9, 3] #[2, 3, 3] false, 1, 8, .nilFunc⟩
def ti27 : TI := ⟨.func #[2] #[9] false, 1, 8, .nilFunc⟩
def ti28 : TI := ⟨.func #[22] #[3] false, 1, 8, .nilFunc⟩
def ti29 : TI := ⟨.func #[2, 9, 3] #[4] false, 1, 8, .nilFunc⟩
def ti31 : TI := ⟨.func #[9] #[2, 22] false, 1, 8, .nilFunc⟩
def ti33 : TI := ⟨.func #[9] #[2, 3] false, 1, 8, .nilFunc⟩
def ti34 : TI := ⟨.func #[9, 3] #[4] false, 1, 8, .nilFunc⟩
def ti35 : TI := ⟨.int .u64, 1, 8, (.int .u64 0)⟩
def ti36 : TI := ⟨.int .u64, 1, 8, (.int .u64 0)⟩
def ti37 : TI := ⟨.slice 5, 1, 24, (.slice none 0 0)⟩
def ti38 : TI := ⟨.func #[9] #[3] false, 1, 8, .nilFunc⟩
def ti40 : TI := ⟨.func #[9, 9] #[9, 4] false, 1, 8, .nilFunc⟩
def ti42 : TI := ⟨.func #[5, 35] #[35, 4] false, 1, 8, .nilFunc⟩
def ti44 : TI := ⟨.func #[35, 35] #[35, 35] false, 1, 8, .nilFunc⟩
def ti45 : TI := ⟨.func #[35, 35, 35] #[35, 35] false, 1, 8, .nilFunc⟩
def ti47 : TI := ⟨.func #[9, 3, 3] #[35, 4, 3] false, 1, 8, .nilFunc⟩
def ti48 : TI := ⟨.func #[5, 3] #[3] false, 1, 8, .nilFunc⟩
def ti49 : TI := ⟨.func #[9, 9] #[4] false, 1, 8, .nilFunc⟩
def ti50 : TI := ⟨.func #[] #[9] false, 1, 8, .nilFunc⟩
def ti56 : TI := ⟨.func #[] #[3] false, 1, 8, .nilFunc⟩
def ti57 : TI := ⟨.int .u32, 1, 4, (.int .u32 0)⟩
def ti60 : TI := ⟨.func #[66, 66] #[4] false, 1, 8, .nilFunc⟩
def ti61 : TI := ⟨.pointer 5, 1, 8, (.pointer none)⟩
def tab : Tab := [(1, ti1), (2, ti2), (3, ti3), (4, ti4), (5, ti5), (9, ti9), (12, ti12), (13, ti13), (19, ti19), (21, ti21), (22, ti22), (24, ti24), (26, ti26), (27, ti27), (28, ti28), (29, ti29), (31, ti31), (33, ti33), (34, ti34), (35, ti35), (36, ti36), (37, ti37), (38, ti38), (40, ti40), (42, ti42), (44, ti44), (45, ti45), (47, ti47), (48, ti48), (49, ti49), (50, ti50), (56, ti56), (57, ti57), (60, ti60), (61, ti61)]
set_option maxRecDepth 100000
theorem tab_ok0 : tabOK Try.prog [] := tabOK_nil _
theorem tab_a61 : Try.prog.underlying 61 = some ti61.d := by kernel_rfl
theorem tab_b61 : (Try.prog.info? 61).map (fun x => (x.zero, x.size, x.bytes)) = some (some ti61.zero, ti61.size, ti61.bytes) := by kernel_rfl
theorem tab_a60 : Try.prog.underlying 60 = some ti60.d := by kernel_rfl
theorem tab_b60 : (Try.prog.info? 60).map (fun x => (x.zero, x.size, x.bytes)) = some (some ti60.zero, ti60.size, ti60.bytes) := by kernel_rfl
theorem tab_a57 : Try.prog.underlying 57 = some ti57.d := by kernel_rfl
theorem tab_b57 : (Try.prog.info? 57).map (fun x => (x.zero, x.size, x.bytes)) = some (some ti57.zero, ti57.size, ti57.bytes) := by kernel_rfl
theorem tab_a56 : Try.prog.underlying 56 = some ti56.d := by kernel_rfl
theorem tab_b56 : (Try.prog.info? 56).map (fun x => (x.zero, x.size, x.bytes)) = some (some ti56.zero, ti56.size, ti56.bytes) := by kernel_rfl
theorem tab_a50 : Try.prog.underlying 50 = some ti50.d := by kernel_rfl
theorem tab_b50 : (Try.prog.info? 50).map (fun x => (x.zero, x.size, x.bytes)) = some (some ti50.zero, ti50.size, ti50.bytes) := by kernel_rfl
theorem tab_a49 : Try.prog.underlying 49 = some ti49.d := by kernel_rfl
theorem tab_b49 : (Try.prog.info? 49).map (fun x => (x.zero, x.size, x.bytes)) = some (some ti49.zero, ti49.size, ti49.bytes) := by kernel_rfl
theorem tab_a48 : Try.prog.underlying 48 = some ti48.d := by kernel_rfl
theorem tab_b48 : (Try.prog.info? 48).map (fun x => (x.zero, x.size, x.bytes)) = some (some ti48.zero, ti48.size, ti48.bytes) := by kernel_rfl
theorem tab_a47 : Try.prog.underlying 47 = some ti47.d := by kernel_rfl
theorem tab_b47 : (Try.prog.info? 47).map (fun x => (x.zero, x.size, x.bytes)) = some (some ti47.zero, ti47.size, ti47.bytes) := by kernel_rfl
theorem tab_a45 : Try.prog.underlying 45 = some ti45.d := by kernel_rfl
theorem tab_b45 : (Try.prog.info? 45).map (fun x => (x.zero, x.size, x.bytes)) = some (some ti45.zero, ti45.size, ti45.bytes) := by kernel_rfl
theorem tab_a44 : Try.prog.underlying 44 = some ti44.d := by kernel_rfl
theorem tab_b44 : (Try.prog.info? 44).map (fun x => (x.zero, x.size, x.bytes)) = some (some ti44.zero, ti44.size, ti44.bytes) := by kernel_rfl
theorem tab_a42 : Try.prog.underlying 42 = some ti42.d := by kernel_rfl
theorem tab_b42 : (Try.prog.info? 42).map (fun x => (x.zero, x.size, x.bytes)) = some (some ti42.zero, ti42.size, ti42.bytes) := by kernel_rfl
theorem tab_a40 : Try.prog.underlying 40 = some ti40.d := by kernel_rfl
theorem tab_b40 : (Try.prog.info? 40).map (fun x => (x.zero, x.size, x.bytes)) = some (some ti40.zero, ti40.size, ti40.bytes) := by kernel_rfl
theorem tab_a38 : Try.prog.underlying 38 = some ti38.d := by kernel_rfl
theorem tab_b38 : (Try.prog.info? 38).map (fun x => (x.zero, x.size, x.bytes)) = some (some ti38.zero, ti38.size, ti38.bytes) := by kernel_rfl
theorem tab_a37 : Try.prog.underlying 37 = some ti37.d := by kernel_rfl
theorem tab_b37 : (Try.prog.info? 37).map (fun x => (x.zero, x.size, x.bytes)) = some (some ti37.zero, ti37.size, ti37.bytes) := by kernel_rfl
theorem tab_a36 : Try.prog.underlying 36 = some ti36.d := by kernel_rfl
theorem tab_b36 : (Try.prog.info? 36).map (fun x => (x.zero, x.size, x.bytes)) = some (some ti36.zero, ti36.size, ti36.bytes) := by kernel_rfl
theorem tab_a35 : Try.prog.underlying 35 = some ti35.d := by kernel_rfl
theorem tab_b35 : (Try.prog.info? 35).map (fun x => (x.zero, x.size, x.bytes)) = some (some ti35.zero, ti35.size, ti35.bytes) := by kernel_rfl
theorem tab_a34 : Try.prog.underlying 34 = some ti34.d := by kernel_rfl
theorem tab_b34 : (Try.prog.info? 34).map (fun x => (x.zero, x.size, x.bytes)) = some (some ti34.zero, ti34.size, ti34.bytes) := by kernel_rfl
theorem tab_a33 : Try.prog.underlying 33 = some ti33.d := by kernel_rfl
theorem tab_b33 : (Try.prog.info? 33).map (fun x => (x.zero, x.size, x.bytes)) = some (some ti33.zero, ti33.size, ti33.bytes) := by kernel_rfl
theorem tab_a31 : Try.prog.underlying 31 = some ti31.d := by kernel_rfl
theorem tab_b31 : (Try.prog.info? 31).map (fun x => (x.zero, x.size, x.bytes)) = some (some ti31.zero, ti31.size, ti31.bytes) := by kernel_rfl
theorem tab_a29 : Try.prog.underlying 29 = some ti29.d := by kernel_rfl
theorem tab_b29 : (Try.prog.info? 29).map (fun x => (x.zero, x.size, x.bytes)) = some (some ti29.zero, ti29.size, ti29.bytes) := by kernel_rfl
theorem tab_a28 : Try.prog.underlying 28 = some ti28.d := by kernel_rfl
theorem tab_b28 : (Try.prog.info? 28).map (fun x => (x.zero, x.size, x.bytes)) = some (some ti28.zero, ti28.size, ti28.bytes) := by kernel_rfl
theorem tab_a27 : Try.prog.underlying 27 = some ti27.d := by kernel_rfl
theorem tab_b27 : (Try.prog.info? 27).map (fun x => (x.zero, x.size, x.bytes)) = some (some ti27.zero, ti27.size, ti27.bytes) := by kernel_rfl
theorem tab_a26 : Try.prog.underlying 26 = some ti26.d := by kernel_rfl
theorem tab_b26 : (Try.prog.info? 26).map (fun x => (x.zero, x.size, x.bytes)) = some (some ti26.zero, ti26.size, ti26.bytes) := by kernel_rfl
theorem tab_a24 : Try.prog.underlying 24 = some ti24.d := by kernel_rfl
theorem tab_b24 : (Try.prog.info? 24).map (fun x => (x.zero, x.size, x.bytes)) = some (some ti24.zero, ti24.size, ti24.bytes) := by kernel_rfl
theorem tab_a22 : Try.prog.underlying 22 = some ti22.d := by kernel_rfl
theorem tab_b22 : (Try.prog.info? 22).map (fun x => (x.zero, x.size, x.bytes)) = some (some ti22.zero, ti22.size, ti22.bytes) := by kernel_rfl
theorem tab_a21 : Try.prog.underlying 21 = some ti21.d := by kernel_rfl
theorem tab_b21 : (Try.prog.info? 21).map (fun x => (x.zero, x.size, x.bytes)) = some (some ti21.zero, ti21.size, ti21.bytes) := by kernel_rfl
theorem tab_a19 : Try.prog.underlying 19 = some ti19.d := by kernel_rfl
theorem tab_b19 : (Try.prog.info? 19).map (fun x => (x.zero, x.size, x.bytes)) = some (some ti19.zero, ti19.size, ti19.bytes) := by kernel_rfl
theorem tab_a13 : Try.prog.underlying 13 = some ti13.d := by kernel_rfl
theorem tab_b13 : (Try.prog.info? 13).map (fun x => (x.zero, x.size, x.bytes)) = some (some ti13.zero, ti13.size, ti13.bytes) := by kernel_rfl
theorem tab_a12 : Try.prog.underlying 12 = some ti12.d := by kernel_rfl
theorem tab_b12 : (Try.prog.info? 12).map (fun x => (x.zero, x.size, x.bytes)) = some (some ti12.zero, ti12.size, ti12.bytes) := by kernel_rfl
theorem tab_a9 : Try.prog.underlying 9 = some ti9.d := by kernel_rfl
theorem tab_b9 : (Try.prog.info? 9).map (fun x => (x.zero, x.size, x.bytes)) = some (some ti9.zero, ti9.size, ti9.bytes) := by kernel_rfl
theorem tab_a5 : Try.prog.underlying 5 = some ti5.d := by kernel_rfl
theorem tab_b5 : (Try.prog.info? 5).map (fun x => (x.zero, x.size, x.bytes)) = some (some ti5.zero, ti5.size, ti5.bytes) := by kernel_rfl
theorem tab_a4 : Try.prog.underlying 4 = some ti4.d := by kernel_rfl
theorem tab_b4 : (Try.prog.info? 4).map (fun x => (x.zero, x.size, x.bytes)) = some (some ti4.zero, ti4.size, ti4.bytes) := by kernel_rfl
theorem tab_a3 : Try.prog.underlying 3 = some ti3.d := by kernel_rfl
theorem tab_b3 : (Try.prog.info? 3).map (fun x => (x.zero, x.size, x.bytes)) = some (some ti3.zero, ti3.size, ti3.bytes) := by kernel_rfl
theorem tab_a2 : Try.prog.underlying 2 = some ti2.d := by kernel_rfl
theorem tab_b2 : (Try.prog.info? 2).map (fun x => (x.zero, x.size, x.bytes)) = some (some ti2.zero, ti2.size, ti2.bytes) := by kernel_rfl
theorem tab_a1 : Try.prog.underlying 1 = some ti1.d := by kernel_rfl
theorem tab_b1 : (Try.prog.info? 1).map (fun x => (x.zero, x.size, x.bytes)) = some (some ti1.zero, ti1.size, ti1.bytes) := by kernel_rfl
theorem tab_ok : tabOK Try.prog tab := tabOK_cons tab_a1 tab_b1 (tabOK_cons tab_a2 tab_b2 (tabOK_cons tab_a3 tab_b3 (tabOK_cons tab_a4 tab_b4 (tabOK_cons tab_a5 tab_b5 (tabOK_cons tab_a9 tab_b9 (tabOK_cons tab_a12 tab_b12 (tabOK_cons tab_a13 tab_b13 (tabOK_cons tab_a19 tab_b19 (tabOK_cons tab_a21 tab_b21 (tabOK_cons tab_a22 tab_b22 (tabOK_cons tab_a24 tab_b24 (tabOK_cons tab_a26 tab_b26 (tabOK_cons tab_a27 tab_b27 (tabOK_cons tab_a28 tab_b28 (tabOK_cons tab_a29 tab_b29 (tabOK_cons tab_a31 tab_b31 (tabOK_cons tab_a33 tab_b33 (tabOK_cons tab_a34 tab_b34 (tabOK_cons tab_a35 tab_b35 (tabOK_cons tab_a36 tab_b36 (tabOK_cons tab_a37 tab_b37 (tabOK_cons tab_a38 tab_b38 (tabOK_cons tab_a40 tab_b40 (tabOK_cons tab_a42 tab_b42 (tabOK_cons tab_a44 tab_b44 (tabOK_cons tab_a45 tab_b45 (tabOK_cons tab_a47 tab_b47 (tabOK_cons tab_a48 tab_b48 (tabOK_cons tab_a49 tab_b49 (tabOK_cons tab_a50 tab_b50 (tabOK_cons tab_a56 tab_b56 (tabOK_cons tab_a57 tab_b57 (tabOK_cons tab_a60 tab_b60 (tabOK_cons tab_a61 tab_b61 (tabOK_nil _)))))))))))))))))))))))))))))))))))
end Go.Proofs.Ytpfanhbkjajocaa
