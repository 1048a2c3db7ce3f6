/- The types of this seat, and that they are the program's. No condition. -/
import Derived.Test.YtgoklgibhmddoaaProg
import Derived.Test.YtgoklgibhmddoaaV19
namespace Go.Proofs.Ytgoklgibhmddoaa
open Go.RowKit
set_option maxRecDepth 20000
def ti0 : TI := ⟨(TypeDesc.tuple #[]), 1, 0, [.tuple #[]], false, [2023031, 2080031, 2106031]⟩
theorem tio0 : TIOk Try.prog (0, ti0) := ⟨by kernel_rfl, by kernel_rfl, by kernel_rfl, nofun⟩
def ti1 : TI := ⟨(TypeDesc.func #[] #[] false), 1, 8, [.nilFunc], false, []⟩
theorem tio1 : TIOk Try.prog (1, ti1) := ⟨by kernel_rfl, by kernel_rfl, by kernel_rfl, nofun⟩
def ti2 : TI := ⟨(TypeDesc.int IntKind.i64), 1, 8, [.int .i64 0], false, []⟩
theorem tio2 : TIOk Try.prog (2, ti2) := ⟨by kernel_rfl, by kernel_rfl, by kernel_rfl, nofun⟩
def ti3 : TI := ⟨(TypeDesc.int IntKind.i64), 1, 8, [.int .i64 0], false, []⟩
theorem tio3 : TIOk Try.prog (3, ti3) := ⟨by kernel_rfl, by kernel_rfl, by kernel_rfl, nofun⟩
def ti4 : TI := ⟨TypeDesc.bool, 1, 1, [.bool false], false, []⟩
theorem tio4 : TIOk Try.prog (4, ti4) := ⟨by kernel_rfl, by kernel_rfl, by kernel_rfl, nofun⟩
def ti5 : TI := ⟨(TypeDesc.int IntKind.u8), 1, 1, [.int .u8 0], false, []⟩
theorem tio5 : TIOk Try.prog (5, ti5) := ⟨by kernel_rfl, by kernel_rfl, by kernel_rfl, nofun⟩
def ti6 : TI := ⟨(TypeDesc.int IntKind.u8), 1, 1, [.int .u8 0], false, []⟩
theorem tio6 : TIOk Try.prog (6, ti6) := ⟨by kernel_rfl, by kernel_rfl, by kernel_rfl, nofun⟩
def ti7 : TI := ⟨(TypeDesc.struct #[{ name := "x", type := 2, offset := 0, embedded := false, tag := "", pkgPath := "runtime", byteOffset := 0 }, { name := "y", type := 3, offset := 1, embedded := false, tag := "", pkgPath := "runtime", byteOffset := 8 }, { name := "signed", type := 4, offset := 2, embedded := false, tag := "", pkgPath := "runtime", byteOffset := 16 }, { name := "code", type := 6, offset := 3, embedded := false, tag := "", pkgPath := "runtime", byteOffset := 17 }]), 4, 24, [.int .i64 0, .int .i64 0, .bool false, .int .u8 0], true, []⟩
theorem tio7 : TIOk Try.prog (7, ti7) := ⟨by kernel_rfl, by kernel_rfl, by kernel_rfl, fun _ => ⟨by kernel_rfl, by kernel_rfl⟩⟩
def ti8 : TI := ⟨(TypeDesc.struct #[{ name := "x", type := 2, offset := 0, embedded := false, tag := "", pkgPath := "runtime", byteOffset := 0 }, { name := "y", type := 3, offset := 1, embedded := false, tag := "", pkgPath := "runtime", byteOffset := 8 }, { name := "signed", type := 4, offset := 2, embedded := false, tag := "", pkgPath := "runtime", byteOffset := 16 }, { name := "code", type := 6, offset := 3, embedded := false, tag := "", pkgPath := "runtime", byteOffset := 17 }]), 4, 24, [.int .i64 0, .int .i64 0, .bool false, .int .u8 0], true, []⟩
theorem tio8 : TIOk Try.prog (8, ti8) := ⟨by kernel_rfl, by kernel_rfl, by kernel_rfl, fun _ => ⟨by kernel_rfl, by kernel_rfl⟩⟩
def ti9 : TI := ⟨TypeDesc.string, 1, 16, [.string { data := #[] }], false, []⟩
theorem tio9 : TIOk Try.prog (9, ti9) := ⟨by kernel_rfl, by kernel_rfl, by kernel_rfl, nofun⟩
def ti10 : TI := ⟨TypeDesc.string, 1, 16, [.string { data := #[] }], false, []⟩
theorem tio10 : TIOk Try.prog (10, ti10) := ⟨by kernel_rfl, by kernel_rfl, by kernel_rfl, nofun⟩
def ti11 : TI := ⟨TypeDesc.string, 1, 16, [.string { data := #[] }], false, []⟩
theorem tio11 : TIOk Try.prog (11, ti11) := ⟨by kernel_rfl, by kernel_rfl, by kernel_rfl, nofun⟩
def ti12 : TI := ⟨(TypeDesc.int IntKind.u64), 1, 8, [.int .u64 0], false, []⟩
theorem tio12 : TIOk Try.prog (12, ti12) := ⟨by kernel_rfl, by kernel_rfl, by kernel_rfl, nofun⟩
def ti13 : TI := ⟨(TypeDesc.struct #[{ name := "msg", type := 9, offset := 0, embedded := false, tag := "", pkgPath := "runtime", byteOffset := 0 }, { name := "addr", type := 12, offset := 1, embedded := false, tag := "", pkgPath := "runtime", byteOffset := 16 }]), 2, 24, [.string { data := #[] }, .int .u64 0], false, []⟩
theorem tio13 : TIOk Try.prog (13, ti13) := ⟨by kernel_rfl, by kernel_rfl, by kernel_rfl, nofun⟩
def ti14 : TI := ⟨(TypeDesc.struct #[{ name := "msg", type := 9, offset := 0, embedded := false, tag := "", pkgPath := "runtime", byteOffset := 0 }, { name := "addr", type := 12, offset := 1, embedded := false, tag := "", pkgPath := "runtime", byteOffset := 16 }]), 2, 24, [.string { data := #[] }, .int .u64 0], false, []⟩
theorem tio14 : TIOk Try.prog (14, ti14) := ⟨by kernel_rfl, by kernel_rfl, by kernel_rfl, nofun⟩
def ti15 : TI := ⟨(TypeDesc.pointer 144), 1, 8, [.pointer none], false, []⟩
theorem tio15 : TIOk Try.prog (15, ti15) := ⟨by kernel_rfl, by kernel_rfl, by kernel_rfl, nofun⟩
def ti16 : TI := ⟨(TypeDesc.pointer 147), 1, 8, [.pointer none], false, []⟩
theorem tio16 : TIOk Try.prog (16, ti16) := ⟨by kernel_rfl, by kernel_rfl, by kernel_rfl, nofun⟩
def ti17 : TI := ⟨(TypeDesc.pointer 156), 1, 8, [.pointer none], false, []⟩
theorem tio17 : TIOk Try.prog (17, ti17) := ⟨by kernel_rfl, by kernel_rfl, by kernel_rfl, nofun⟩
def ti18 : TI := ⟨(TypeDesc.struct #[{ name := "typ", type := 17, offset := 0, embedded := false, tag := "", pkgPath := "internal/runtime/maps", byteOffset := 0 }]), 1, 8, [.pointer none], false, []⟩
theorem tio18 : TIOk Try.prog (18, ti18) := ⟨by kernel_rfl, by kernel_rfl, by kernel_rfl, nofun⟩
def ti19 : TI := ⟨(TypeDesc.struct #[{ name := "typ", type := 17, offset := 0, embedded := false, tag := "", pkgPath := "internal/runtime/maps", byteOffset := 0 }]), 1, 8, [.pointer none], false, []⟩
theorem tio19 : TIOk Try.prog (19, ti19) := ⟨by kernel_rfl, by kernel_rfl, by kernel_rfl, nofun⟩
def ti20 : TI := ⟨(TypeDesc.interface #[]), 1, 16, [.nilIface], false, []⟩
theorem tio20 : TIOk Try.prog (20, ti20) := ⟨by kernel_rfl, by kernel_rfl, by kernel_rfl, nofun⟩
def ti21 : TI := ⟨(TypeDesc.int IntKind.i32), 1, 4, [.int .i32 0], false, []⟩
theorem tio21 : TIOk Try.prog (21, ti21) := ⟨by kernel_rfl, by kernel_rfl, by kernel_rfl, nofun⟩
def ti22 : TI := ⟨(TypeDesc.slice 54), 1, 24, [.slice none 0 0], false, []⟩
theorem tio22 : TIOk Try.prog (22, ti22) := ⟨by kernel_rfl, by kernel_rfl, by kernel_rfl, nofun⟩
def ti23 : TI := ⟨(TypeDesc.slice 67), 1, 24, [.slice none 0 0], false, []⟩
theorem tio23 : TIOk Try.prog (23, ti23) := ⟨by kernel_rfl, by kernel_rfl, by kernel_rfl, nofun⟩
def ti24 : TI := ⟨(TypeDesc.struct #[{ name := "Now", type := 2, offset := 0, embedded := false, tag := "", pkgPath := "", byteOffset := 0 }, { name := "Next", type := 2, offset := 1, embedded := false, tag := "", pkgPath := "", byteOffset := 8 }, { name := "Plans", type := 22, offset := 2, embedded := false, tag := "", pkgPath := "", byteOffset := 16 }, { name := "Conns", type := 23, offset := 3, embedded := false, tag := "", pkgPath := "", byteOffset := 40 }]), 4, 64, [.int .i64 0, .int .i64 0, .slice none 0 0, .slice none 0 0], true, []⟩
theorem tio24 : TIOk Try.prog (24, ti24) := ⟨by kernel_rfl, by kernel_rfl, by kernel_rfl, fun _ => ⟨by kernel_rfl, by kernel_rfl⟩⟩
def ti25 : TI := ⟨(TypeDesc.struct #[{ name := "Now", type := 2, offset := 0, embedded := false, tag := "", pkgPath := "", byteOffset := 0 }, { name := "Next", type := 2, offset := 1, embedded := false, tag := "", pkgPath := "", byteOffset := 8 }, { name := "Plans", type := 22, offset := 2, embedded := false, tag := "", pkgPath := "", byteOffset := 16 }, { name := "Conns", type := 23, offset := 3, embedded := false, tag := "", pkgPath := "", byteOffset := 40 }]), 4, 64, [.int .i64 0, .int .i64 0, .slice none 0 0, .slice none 0 0], true, []⟩
theorem tio25 : TIOk Try.prog (25, ti25) := ⟨by kernel_rfl, by kernel_rfl, by kernel_rfl, fun _ => ⟨by kernel_rfl, by kernel_rfl⟩⟩
def ti26 : TI := ⟨(TypeDesc.tuple #[25, 4]), 1, 0, [.tuple { toList := [.agg { toList := [.int .i64 0, .int .i64 0, .slice none 0 0, .slice none 0 0] }, .bool false] }], false, []⟩
theorem tio26 : TIOk Try.prog (26, ti26) := ⟨by kernel_rfl, by kernel_rfl, by kernel_rfl, nofun⟩
def ti27 : TI := ⟨(TypeDesc.func #[] #[25, 4] false), 1, 8, [.nilFunc], false, []⟩
theorem tio27 : TIOk Try.prog (27, ti27) := ⟨by kernel_rfl, by kernel_rfl, by kernel_rfl, nofun⟩
def ti28 : TI := ⟨(TypeDesc.int IntKind.i64), 1, 8, [.int .i64 0], false, []⟩
theorem tio28 : TIOk Try.prog (28, ti28) := ⟨by kernel_rfl, by kernel_rfl, by kernel_rfl, nofun⟩
def ti29 : TI := ⟨(TypeDesc.tuple #[25, 3, 28]), 1, 0, [.tuple { toList := [.agg { toList := [.int .i64 0, .int .i64 0, .slice none 0 0, .slice none 0 0] }, .int .i64 0, .int .i64 0] }], false, []⟩
theorem tio29 : TIOk Try.prog (29, ti29) := ⟨by kernel_rfl, by kernel_rfl, by kernel_rfl, nofun⟩
def ti30 : TI := ⟨(TypeDesc.func #[25, 2, 31] #[25, 3, 28] false), 1, 8, [.nilFunc], false, []⟩
theorem tio30 : TIOk Try.prog (30, ti30) := ⟨by kernel_rfl, by kernel_rfl, by kernel_rfl, nofun⟩
def ti31 : TI := ⟨(TypeDesc.slice 5), 1, 24, [.slice none 0 0], false, []⟩
theorem tio31 : TIOk Try.prog (31, ti31) := ⟨by kernel_rfl, by kernel_rfl, by kernel_rfl, nofun⟩
def ti32 : TI := ⟨(TypeDesc.slice 46), 1, 24, [.slice none 0 0], false, []⟩
theorem tio32 : TIOk Try.prog (32, ti32) := ⟨by kernel_rfl, by kernel_rfl, by kernel_rfl, nofun⟩
def ti33 : TI := ⟨(TypeDesc.tuple #[25, 32, 28]), 1, 0, [.tuple { toList := [.agg { toList := [.int .i64 0, .int .i64 0, .slice none 0 0, .slice none 0 0] }, .slice none 0 0, .int .i64 0] }], false, []⟩
theorem tio33 : TIOk Try.prog (33, ti33) := ⟨by kernel_rfl, by kernel_rfl, by kernel_rfl, nofun⟩
def ti34 : TI := ⟨(TypeDesc.func #[25, 2] #[25, 32, 28] false), 1, 8, [.nilFunc], false, []⟩
theorem tio34 : TIOk Try.prog (34, ti34) := ⟨by kernel_rfl, by kernel_rfl, by kernel_rfl, nofun⟩
def ti35 : TI := ⟨(TypeDesc.tuple #[25, 31, 3, 28]), 1, 0, [.tuple { toList := [.agg { toList := [.int .i64 0, .int .i64 0, .slice none 0 0, .slice none 0 0] }, .slice none 0 0, .int .i64 0, .int .i64 0] }], false, []⟩
theorem tio35 : TIOk Try.prog (35, ti35) := ⟨by kernel_rfl, by kernel_rfl, by kernel_rfl, nofun⟩
def ti36 : TI := ⟨(TypeDesc.func #[25, 2] #[25, 31, 3, 28] false), 1, 8, [.nilFunc], false, []⟩
theorem tio36 : TIOk Try.prog (36, ti36) := ⟨by kernel_rfl, by kernel_rfl, by kernel_rfl, nofun⟩
def ti37 : TI := ⟨(TypeDesc.tuple #[25, 28]), 1, 0, [.tuple { toList := [.agg { toList := [.int .i64 0, .int .i64 0, .slice none 0 0, .slice none 0 0] }, .int .i64 0] }], false, []⟩
theorem tio37 : TIOk Try.prog (37, ti37) := ⟨by kernel_rfl, by kernel_rfl, by kernel_rfl, nofun⟩
def ti38 : TI := ⟨(TypeDesc.func #[25, 2] #[25, 28] false), 1, 8, [.nilFunc], false, []⟩
theorem tio38 : TIOk Try.prog (38, ti38) := ⟨by kernel_rfl, by kernel_rfl, by kernel_rfl, nofun⟩
def ti39 : TI := ⟨(TypeDesc.func #[25, 2, 31, 2] #[25, 28] false), 1, 8, [.nilFunc], false, []⟩
theorem tio39 : TIOk Try.prog (39, ti39) := ⟨by kernel_rfl, by kernel_rfl, by kernel_rfl, nofun⟩
def ti40 : TI := ⟨(TypeDesc.tuple #[25, 2, 28]), 1, 0, [.tuple { toList := [.agg { toList := [.int .i64 0, .int .i64 0, .slice none 0 0, .slice none 0 0] }, .int .i64 0, .int .i64 0] }], false, []⟩
theorem tio40 : TIOk Try.prog (40, ti40) := ⟨by kernel_rfl, by kernel_rfl, by kernel_rfl, nofun⟩
def ti41 : TI := ⟨(TypeDesc.func #[25, 3] #[25, 2, 28] false), 1, 8, [.nilFunc], false, []⟩
theorem tio41 : TIOk Try.prog (41, ti41) := ⟨by kernel_rfl, by kernel_rfl, by kernel_rfl, nofun⟩
def ti42 : TI := ⟨(TypeDesc.func #[25, 2, 3, 2] #[25, 28] false), 1, 8, [.nilFunc], false, []⟩
theorem tio42 : TIOk Try.prog (42, ti42) := ⟨by kernel_rfl, by kernel_rfl, by kernel_rfl, nofun⟩
def ti43 : TI := ⟨(TypeDesc.tuple #[25, 31, 28]), 1, 0, [.tuple { toList := [.agg { toList := [.int .i64 0, .int .i64 0, .slice none 0 0, .slice none 0 0] }, .slice none 0 0, .int .i64 0] }], false, []⟩
theorem tio43 : TIOk Try.prog (43, ti43) := ⟨by kernel_rfl, by kernel_rfl, by kernel_rfl, nofun⟩
def ti44 : TI := ⟨(TypeDesc.func #[25, 2, 3] #[25, 31, 28] false), 1, 8, [.nilFunc], false, []⟩
theorem tio44 : TIOk Try.prog (44, ti44) := ⟨by kernel_rfl, by kernel_rfl, by kernel_rfl, nofun⟩
def ti45 : TI := ⟨(TypeDesc.struct #[{ name := "Kind", type := 3, offset := 0, embedded := false, tag := "", pkgPath := "", byteOffset := 0 }, { name := "Conn", type := 2, offset := 1, embedded := false, tag := "", pkgPath := "", byteOffset := 8 }]), 2, 16, [.int .i64 0, .int .i64 0], true, []⟩
theorem tio45 : TIOk Try.prog (45, ti45) := ⟨by kernel_rfl, by kernel_rfl, by kernel_rfl, fun _ => ⟨by kernel_rfl, by kernel_rfl⟩⟩
def ti46 : TI := ⟨(TypeDesc.struct #[{ name := "Kind", type := 3, offset := 0, embedded := false, tag := "", pkgPath := "", byteOffset := 0 }, { name := "Conn", type := 2, offset := 1, embedded := false, tag := "", pkgPath := "", byteOffset := 8 }]), 2, 16, [.int .i64 0, .int .i64 0], true, []⟩
theorem tio46 : TIOk Try.prog (46, ti46) := ⟨by kernel_rfl, by kernel_rfl, by kernel_rfl, fun _ => ⟨by kernel_rfl, by kernel_rfl⟩⟩
def ti47 : TI := ⟨(TypeDesc.func #[] #[4] false), 1, 8, [.nilFunc], false, []⟩
theorem tio47 : TIOk Try.prog (47, ti47) := ⟨by kernel_rfl, by kernel_rfl, by kernel_rfl, nofun⟩
def ti48 : TI := ⟨(TypeDesc.slice 56), 1, 24, [.slice none 0 0], false, []⟩
theorem tio48 : TIOk Try.prog (48, ti48) := ⟨by kernel_rfl, by kernel_rfl, by kernel_rfl, nofun⟩
def ti49 : TI := ⟨(TypeDesc.func #[48] #[4] false), 1, 8, [.nilFunc], false, []⟩
theorem tio49 : TIOk Try.prog (49, ti49) := ⟨by kernel_rfl, by kernel_rfl, by kernel_rfl, nofun⟩
def ti50 : TI := ⟨(TypeDesc.func #[22] #[25, 28] false), 1, 8, [.nilFunc], false, []⟩
theorem tio50 : TIOk Try.prog (50, ti50) := ⟨by kernel_rfl, by kernel_rfl, by kernel_rfl, nofun⟩
def ti51 : TI := ⟨(TypeDesc.func #[25, 25] #[4] false), 1, 8, [.nilFunc], false, []⟩
theorem tio51 : TIOk Try.prog (51, ti51) := ⟨by kernel_rfl, by kernel_rfl, by kernel_rfl, nofun⟩
def ti52 : TI := ⟨(TypeDesc.func #[25, 56] #[25, 4] false), 1, 8, [.nilFunc], false, []⟩
theorem tio52 : TIOk Try.prog (52, ti52) := ⟨by kernel_rfl, by kernel_rfl, by kernel_rfl, nofun⟩
def ti53 : TI := ⟨(TypeDesc.struct #[{ name := "Fail", type := 3, offset := 0, embedded := false, tag := "", pkgPath := "", byteOffset := 0 }, { name := "Delay", type := 2, offset := 1, embedded := false, tag := "", pkgPath := "", byteOffset := 8 }, { name := "Window", type := 3, offset := 2, embedded := false, tag := "", pkgPath := "", byteOffset := 16 }]), 3, 24, [.int .i64 0, .int .i64 0, .int .i64 0], true, []⟩
theorem tio53 : TIOk Try.prog (53, ti53) := ⟨by kernel_rfl, by kernel_rfl, by kernel_rfl, fun _ => ⟨by kernel_rfl, by kernel_rfl⟩⟩
def ti54 : TI := ⟨(TypeDesc.struct #[{ name := "Fail", type := 3, offset := 0, embedded := false, tag := "", pkgPath := "", byteOffset := 0 }, { name := "Delay", type := 2, offset := 1, embedded := false, tag := "", pkgPath := "", byteOffset := 8 }, { name := "Window", type := 3, offset := 2, embedded := false, tag := "", pkgPath := "", byteOffset := 16 }]), 3, 24, [.int .i64 0, .int .i64 0, .int .i64 0], true, []⟩
theorem tio54 : TIOk Try.prog (54, ti54) := ⟨by kernel_rfl, by kernel_rfl, by kernel_rfl, fun _ => ⟨by kernel_rfl, by kernel_rfl⟩⟩
def ti55 : TI := ⟨(TypeDesc.struct #[{ name := "What", type := 5, offset := 0, embedded := false, tag := "", pkgPath := "", byteOffset := 0 }, { name := "Conn", type := 2, offset := 1, embedded := false, tag := "", pkgPath := "", byteOffset := 8 }, { name := "N", type := 2, offset := 2, embedded := false, tag := "", pkgPath := "", byteOffset := 16 }, { name := "B", type := 31, offset := 3, embedded := false, tag := "", pkgPath := "", byteOffset := 24 }, { name := "P", type := 54, offset := 4, embedded := false, tag := "", pkgPath := "", byteOffset := 48 }]), 7, 72, [.int .u8 0, .int .i64 0, .int .i64 0, .slice none 0 0, .int .i64 0, .int .i64 0, .int .i64 0], true, []⟩
theorem tio55 : TIOk Try.prog (55, ti55) := ⟨by kernel_rfl, by kernel_rfl, by kernel_rfl, fun _ => ⟨by kernel_rfl, by kernel_rfl⟩⟩
def ti56 : TI := ⟨(TypeDesc.struct #[{ name := "What", type := 5, offset := 0, embedded := false, tag := "", pkgPath := "", byteOffset := 0 }, { name := "Conn", type := 2, offset := 1, embedded := false, tag := "", pkgPath := "", byteOffset := 8 }, { name := "N", type := 2, offset := 2, embedded := false, tag := "", pkgPath := "", byteOffset := 16 }, { name := "B", type := 31, offset := 3, embedded := false, tag := "", pkgPath := "", byteOffset := 24 }, { name := "P", type := 54, offset := 4, embedded := false, tag := "", pkgPath := "", byteOffset := 48 }]), 7, 72, [.int .u8 0, .int .i64 0, .int .i64 0, .slice none 0 0, .int .i64 0, .int .i64 0, .int .i64 0], true, []⟩
theorem tio56 : TIOk Try.prog (56, ti56) := ⟨by kernel_rfl, by kernel_rfl, by kernel_rfl, fun _ => ⟨by kernel_rfl, by kernel_rfl⟩⟩
def ti57 : TI := ⟨(TypeDesc.func #[25] #[28] false), 1, 8, [.nilFunc], false, []⟩
theorem tio57 : TIOk Try.prog (57, ti57) := ⟨by kernel_rfl, by kernel_rfl, by kernel_rfl, nofun⟩
def ti58 : TI := ⟨(TypeDesc.func #[22, 48] #[4] false), 1, 8, [.nilFunc], false, []⟩
theorem tio58 : TIOk Try.prog (58, ti58) := ⟨by kernel_rfl, by kernel_rfl, by kernel_rfl, nofun⟩
def ti59 : TI := ⟨(TypeDesc.pointer 63), 1, 8, [.pointer none], false, []⟩
theorem tio59 : TIOk Try.prog (59, ti59) := ⟨by kernel_rfl, by kernel_rfl, by kernel_rfl, nofun⟩
def ti64 : TI := ⟨(TypeDesc.func #[9, 9] #[4] false), 1, 8, [.nilFunc], false, []⟩
theorem tio64 : TIOk Try.prog (64, ti64) := ⟨by kernel_rfl, by kernel_rfl, by kernel_rfl, nofun⟩
def ti65 : TI := ⟨(TypeDesc.slice 119), 1, 24, [.slice none 0 0], false, []⟩
theorem tio65 : TIOk Try.prog (65, ti65) := ⟨by kernel_rfl, by kernel_rfl, by kernel_rfl, nofun⟩
def ti66 : TI := ⟨(TypeDesc.struct #[{ name := "Id", type := 2, offset := 0, embedded := false, tag := "", pkgPath := "", byteOffset := 0 }, { name := "Backend", type := 3, offset := 1, embedded := false, tag := "", pkgPath := "", byteOffset := 8 }, { name := "Status", type := 3, offset := 2, embedded := false, tag := "", pkgPath := "", byteOffset := 16 }, { name := "Born", type := 2, offset := 3, embedded := false, tag := "", pkgPath := "", byteOffset := 24 }, { name := "Ready", type := 2, offset := 4, embedded := false, tag := "", pkgPath := "", byteOffset := 32 }, { name := "Sent", type := 2, offset := 5, embedded := false, tag := "", pkgPath := "", byteOffset := 40 }, { name := "Up", type := 65, offset := 6, embedded := false, tag := "", pkgPath := "", byteOffset := 48 }, { name := "Down", type := 65, offset := 7, embedded := false, tag := "", pkgPath := "", byteOffset := 72 }, { name := "In", type := 31, offset := 8, embedded := false, tag := "", pkgPath := "", byteOffset := 96 }, { name := "Out", type := 31, offset := 9, embedded := false, tag := "", pkgPath := "", byteOffset := 120 }, { name := "UpEnd", type := 3, offset := 10, embedded := false, tag := "", pkgPath := "", byteOffset := 144 }, { name := "DownEnd", type := 3, offset := 11, embedded := false, tag := "", pkgPath := "", byteOffset := 152 }, { name := "UpAt", type := 2, offset := 12, embedded := false, tag := "", pkgPath := "", byteOffset := 160 }, { name := "DownAt", type := 2, offset := 13, embedded := false, tag := "", pkgPath := "", byteOffset := 168 }, { name := "InEnd", type := 3, offset := 14, embedded := false, tag := "", pkgPath := "", byteOffset := 176 }, { name := "OutEnd", type := 3, offset := 15, embedded := false, tag := "", pkgPath := "", byteOffset := 184 }]), 16, 192, [.int .i64 0, .int .i64 0, .int .i64 0, .int .i64 0, .int .i64 0, .int .i64 0, .slice none 0 0, .slice none 0 0, .slice none 0 0, .slice none 0 0, .int .i64 0, .int .i64 0, .int .i64 0, .int .i64 0, .int .i64 0, .int .i64 0], true, []⟩
theorem tio66 : TIOk Try.prog (66, ti66) := ⟨by kernel_rfl, by kernel_rfl, by kernel_rfl, fun _ => ⟨by kernel_rfl, by kernel_rfl⟩⟩
def ti67 : TI := ⟨(TypeDesc.struct #[{ name := "Id", type := 2, offset := 0, embedded := false, tag := "", pkgPath := "", byteOffset := 0 }, { name := "Backend", type := 3, offset := 1, embedded := false, tag := "", pkgPath := "", byteOffset := 8 }, { name := "Status", type := 3, offset := 2, embedded := false, tag := "", pkgPath := "", byteOffset := 16 }, { name := "Born", type := 2, offset := 3, embedded := false, tag := "", pkgPath := "", byteOffset := 24 }, { name := "Ready", type := 2, offset := 4, embedded := false, tag := "", pkgPath := "", byteOffset := 32 }, { name := "Sent", type := 2, offset := 5, embedded := false, tag := "", pkgPath := "", byteOffset := 40 }, { name := "Up", type := 65, offset := 6, embedded := false, tag := "", pkgPath := "", byteOffset := 48 }, { name := "Down", type := 65, offset := 7, embedded := false, tag := "", pkgPath := "", byteOffset := 72 }, { name := "In", type := 31, offset := 8, embedded := false, tag := "", pkgPath := "", byteOffset := 96 }, { name := "Out", type := 31, offset := 9, embedded := false, tag := "", pkgPath := "", byteOffset := 120 }, { name := "UpEnd", type := 3, offset := 10, embedded := false, tag := "", pkgPath := "", byteOffset := 144 }, { name := "DownEnd", type := 3, offset := 11, embedded := false, tag := "", pkgPath := "", byteOffset := 152 }, { name := "UpAt", type := 2, offset := 12, embedded := false, tag := "", pkgPath := "", byteOffset := 160 }, { name := "DownAt", type := 2, offset := 13, embedded := false, tag := "", pkgPath := "", byteOffset := 168 }, { name := "InEnd", type := 3, offset := 14, embedded := false, tag := "", pkgPath := "", byteOffset := 176 }, { name := "OutEnd", type := 3, offset := 15, embedded := false, tag := "", pkgPath := "", byteOffset := 184 }]), 16, 192, [.int .i64 0, .int .i64 0, .int .i64 0, .int .i64 0, .int .i64 0, .int .i64 0, .slice none 0 0, .slice none 0 0, .slice none 0 0, .slice none 0 0, .int .i64 0, .int .i64 0, .int .i64 0, .int .i64 0, .int .i64 0, .int .i64 0], true, []⟩
theorem tio67 : TIOk Try.prog (67, ti67) := ⟨by kernel_rfl, by kernel_rfl, by kernel_rfl, fun _ => ⟨by kernel_rfl, by kernel_rfl⟩⟩
def ti68 : TI := ⟨(TypeDesc.struct #[{ name := "Plans", type := 22, offset := 0, embedded := false, tag := "", pkgPath := "", byteOffset := 0 }, { name := "Acts", type := 48, offset := 1, embedded := false, tag := "", pkgPath := "", byteOffset := 24 }]), 2, 48, [.slice none 0 0, .slice none 0 0], true, []⟩
theorem tio68 : TIOk Try.prog (68, ti68) := ⟨by kernel_rfl, by kernel_rfl, by kernel_rfl, fun _ => ⟨by kernel_rfl, by kernel_rfl⟩⟩
def ti69 : TI := ⟨(TypeDesc.struct #[{ name := "Plans", type := 22, offset := 0, embedded := false, tag := "", pkgPath := "", byteOffset := 0 }, { name := "Acts", type := 48, offset := 1, embedded := false, tag := "", pkgPath := "", byteOffset := 24 }]), 2, 48, [.slice none 0 0, .slice none 0 0], true, []⟩
theorem tio69 : TIOk Try.prog (69, ti69) := ⟨by kernel_rfl, by kernel_rfl, by kernel_rfl, fun _ => ⟨by kernel_rfl, by kernel_rfl⟩⟩
def ti70 : TI := ⟨(TypeDesc.func #[22, 48] #[25, 4] false), 1, 8, [.nilFunc], false, []⟩
theorem tio70 : TIOk Try.prog (70, ti70) := ⟨by kernel_rfl, by kernel_rfl, by kernel_rfl, nofun⟩
def ti71 : TI := ⟨(TypeDesc.tuple #[67, 28]), 1, 0, [.tuple { toList := [.agg { toList := [.int .i64 0, .int .i64 0, .int .i64 0, .int .i64 0, .int .i64 0, .int .i64 0, .slice none 0 0, .slice none 0 0, .slice none 0 0, .slice none 0 0, .int .i64 0, .int .i64 0, .int .i64 0, .int .i64 0, .int .i64 0, .int .i64 0] }, .int .i64 0] }], false, []⟩
theorem tio71 : TIOk Try.prog (71, ti71) := ⟨by kernel_rfl, by kernel_rfl, by kernel_rfl, nofun⟩
def ti72 : TI := ⟨(TypeDesc.func #[25, 2] #[67, 28] false), 1, 8, [.nilFunc], false, []⟩
theorem tio72 : TIOk Try.prog (72, ti72) := ⟨by kernel_rfl, by kernel_rfl, by kernel_rfl, nofun⟩
def ti73 : TI := ⟨(TypeDesc.func #[69, 2, 31] #[4] false), 1, 8, [.nilFunc], false, []⟩
theorem tio73 : TIOk Try.prog (73, ti73) := ⟨by kernel_rfl, by kernel_rfl, by kernel_rfl, nofun⟩
def ti74 : TI := ⟨(TypeDesc.struct #[{ name := "Dialling", type := 3, offset := 0, embedded := false, tag := "", pkgPath := "", byteOffset := 0 }, { name := "Up", type := 3, offset := 1, embedded := false, tag := "", pkgPath := "", byteOffset := 8 }, { name := "Failed", type := 3, offset := 2, embedded := false, tag := "", pkgPath := "", byteOffset := 16 }, { name := "Closed", type := 3, offset := 3, embedded := false, tag := "", pkgPath := "", byteOffset := 24 }]), 4, 32, [.int .i64 0, .int .i64 0, .int .i64 0, .int .i64 0], true, []⟩
theorem tio74 : TIOk Try.prog (74, ti74) := ⟨by kernel_rfl, by kernel_rfl, by kernel_rfl, fun _ => ⟨by kernel_rfl, by kernel_rfl⟩⟩
def ti75 : TI := ⟨(TypeDesc.struct #[{ name := "Dialling", type := 3, offset := 0, embedded := false, tag := "", pkgPath := "", byteOffset := 0 }, { name := "Up", type := 3, offset := 1, embedded := false, tag := "", pkgPath := "", byteOffset := 8 }, { name := "Failed", type := 3, offset := 2, embedded := false, tag := "", pkgPath := "", byteOffset := 16 }, { name := "Closed", type := 3, offset := 3, embedded := false, tag := "", pkgPath := "", byteOffset := 24 }]), 4, 32, [.int .i64 0, .int .i64 0, .int .i64 0, .int .i64 0], true, []⟩
theorem tio75 : TIOk Try.prog (75, ti75) := ⟨by kernel_rfl, by kernel_rfl, by kernel_rfl, fun _ => ⟨by kernel_rfl, by kernel_rfl⟩⟩
def ti76 : TI := ⟨(TypeDesc.tuple #[75, 28]), 1, 0, [.tuple { toList := [.agg { toList := [.int .i64 0, .int .i64 0, .int .i64 0, .int .i64 0] }, .int .i64 0] }], false, []⟩
theorem tio76 : TIOk Try.prog (76, ti76) := ⟨by kernel_rfl, by kernel_rfl, by kernel_rfl, nofun⟩
def ti77 : TI := ⟨(TypeDesc.func #[25, 3] #[75, 28] false), 1, 8, [.nilFunc], false, []⟩
theorem tio77 : TIOk Try.prog (77, ti77) := ⟨by kernel_rfl, by kernel_rfl, by kernel_rfl, nofun⟩
def ti78 : TI := ⟨(TypeDesc.func #[69, 48] #[4] false), 1, 8, [.nilFunc], false, []⟩
theorem tio78 : TIOk Try.prog (78, ti78) := ⟨by kernel_rfl, by kernel_rfl, by kernel_rfl, nofun⟩
def ti79 : TI := ⟨(TypeDesc.func #[25, 2, 80, 92] #[25, 28] false), 1, 8, [.nilFunc], false, []⟩
theorem tio79 : TIOk Try.prog (79, ti79) := ⟨by kernel_rfl, by kernel_rfl, by kernel_rfl, nofun⟩
def ti80 : TI := ⟨(TypeDesc.slice 3), 1, 24, [.slice none 0 0], false, []⟩
theorem tio80 : TIOk Try.prog (80, ti80) := ⟨by kernel_rfl, by kernel_rfl, by kernel_rfl, nofun⟩
def ti81 : TI := ⟨(TypeDesc.pointer 67), 1, 8, [.pointer none], false, []⟩
theorem tio81 : TIOk Try.prog (81, ti81) := ⟨by kernel_rfl, by kernel_rfl, by kernel_rfl, nofun⟩
def ti82 : TI := ⟨(TypeDesc.pointer 65), 1, 8, [.pointer none], false, []⟩
theorem tio82 : TIOk Try.prog (82, ti82) := ⟨by kernel_rfl, by kernel_rfl, by kernel_rfl, nofun⟩
def ti83 : TI := ⟨(TypeDesc.pointer 31), 1, 8, [.pointer none], false, []⟩
theorem tio83 : TIOk Try.prog (83, ti83) := ⟨by kernel_rfl, by kernel_rfl, by kernel_rfl, nofun⟩
def ti84 : TI := ⟨(TypeDesc.pointer 3), 1, 8, [.pointer none], false, []⟩
theorem tio84 : TIOk Try.prog (84, ti84) := ⟨by kernel_rfl, by kernel_rfl, by kernel_rfl, nofun⟩
def ti85 : TI := ⟨(TypeDesc.pointer 2), 1, 8, [.pointer none], false, []⟩
theorem tio85 : TIOk Try.prog (85, ti85) := ⟨by kernel_rfl, by kernel_rfl, by kernel_rfl, nofun⟩
def ti86 : TI := ⟨(TypeDesc.struct #[{ name := "pieces", type := 82, offset := 0, embedded := false, tag := "", pkgPath := "spillway/network", byteOffset := 0 }, { name := "arrived", type := 83, offset := 1, embedded := false, tag := "", pkgPath := "spillway/network", byteOffset := 8 }, { name := "end", type := 84, offset := 2, embedded := false, tag := "", pkgPath := "spillway/network", byteOffset := 16 }, { name := "ended", type := 84, offset := 3, embedded := false, tag := "", pkgPath := "spillway/network", byteOffset := 24 }, { name := "at", type := 85, offset := 4, embedded := false, tag := "", pkgPath := "spillway/network", byteOffset := 32 }, { name := "kind", type := 3, offset := 5, embedded := false, tag := "", pkgPath := "spillway/network", byteOffset := 40 }, { name := "notEnd", type := 3, offset := 6, embedded := false, tag := "", pkgPath := "spillway/network", byteOffset := 48 }]), 7, 56, [.pointer none, .pointer none, .pointer none, .pointer none, .pointer none, .int .i64 0, .int .i64 0], true, []⟩
theorem tio86 : TIOk Try.prog (86, ti86) := ⟨by kernel_rfl, by kernel_rfl, by kernel_rfl, fun _ => ⟨by kernel_rfl, by kernel_rfl⟩⟩
def ti87 : TI := ⟨(TypeDesc.struct #[{ name := "pieces", type := 82, offset := 0, embedded := false, tag := "", pkgPath := "spillway/network", byteOffset := 0 }, { name := "arrived", type := 83, offset := 1, embedded := false, tag := "", pkgPath := "spillway/network", byteOffset := 8 }, { name := "end", type := 84, offset := 2, embedded := false, tag := "", pkgPath := "spillway/network", byteOffset := 16 }, { name := "ended", type := 84, offset := 3, embedded := false, tag := "", pkgPath := "spillway/network", byteOffset := 24 }, { name := "at", type := 85, offset := 4, embedded := false, tag := "", pkgPath := "spillway/network", byteOffset := 32 }, { name := "kind", type := 3, offset := 5, embedded := false, tag := "", pkgPath := "spillway/network", byteOffset := 40 }, { name := "notEnd", type := 3, offset := 6, embedded := false, tag := "", pkgPath := "spillway/network", byteOffset := 48 }]), 7, 56, [.pointer none, .pointer none, .pointer none, .pointer none, .pointer none, .int .i64 0, .int .i64 0], true, []⟩
theorem tio87 : TIOk Try.prog (87, ti87) := ⟨by kernel_rfl, by kernel_rfl, by kernel_rfl, fun _ => ⟨by kernel_rfl, by kernel_rfl⟩⟩
def ti88 : TI := ⟨(TypeDesc.array 2 87), 14, 112, [.pointer none, .pointer none, .pointer none, .pointer none, .pointer none, .int .i64 0, .int .i64 0, .pointer none, .pointer none, .pointer none, .pointer none, .pointer none, .int .i64 0, .int .i64 0], false, []⟩
theorem tio88 : TIOk Try.prog (88, ti88) := ⟨by kernel_rfl, by kernel_rfl, by kernel_rfl, nofun⟩
def ti89 : TI := ⟨(TypeDesc.func #[81] #[88] false), 1, 8, [.nilFunc], false, []⟩
theorem tio89 : TIOk Try.prog (89, ti89) := ⟨by kernel_rfl, by kernel_rfl, by kernel_rfl, nofun⟩
def ti90 : TI := ⟨(TypeDesc.func #[] #[3] false), 1, 8, [.nilFunc], false, []⟩
theorem tio90 : TIOk Try.prog (90, ti90) := ⟨by kernel_rfl, by kernel_rfl, by kernel_rfl, nofun⟩
def ti91 : TI := ⟨(TypeDesc.func #[2, 2, 31] #[] false), 1, 8, [.nilFunc], false, []⟩
theorem tio91 : TIOk Try.prog (91, ti91) := ⟨by kernel_rfl, by kernel_rfl, by kernel_rfl, nofun⟩
def ti92 : TI := ⟨(TypeDesc.func #[81, 54] #[28] false), 1, 8, [.nilFunc], false, []⟩
theorem tio92 : TIOk Try.prog (92, ti92) := ⟨by kernel_rfl, by kernel_rfl, by kernel_rfl, nofun⟩
def ti93 : TI := ⟨(TypeDesc.func #[2, 2, 2] #[4] false), 1, 8, [.nilFunc], false, []⟩
theorem tio93 : TIOk Try.prog (93, ti93) := ⟨by kernel_rfl, by kernel_rfl, by kernel_rfl, nofun⟩
def ti94 : TI := ⟨(TypeDesc.func #[25] #[25] false), 1, 8, [.nilFunc], false, []⟩
theorem tio94 : TIOk Try.prog (94, ti94) := ⟨by kernel_rfl, by kernel_rfl, by kernel_rfl, nofun⟩
def ti95 : TI := ⟨(TypeDesc.func #[2] #[4] false), 1, 8, [.nilFunc], false, []⟩
theorem tio95 : TIOk Try.prog (95, ti95) := ⟨by kernel_rfl, by kernel_rfl, by kernel_rfl, nofun⟩
def ti96 : TI := ⟨(TypeDesc.func #[2, 2] #[2] false), 1, 8, [.nilFunc], false, []⟩
theorem tio96 : TIOk Try.prog (96, ti96) := ⟨by kernel_rfl, by kernel_rfl, by kernel_rfl, nofun⟩
def ti97 : TI := ⟨(TypeDesc.func #[25, 2, 2, 28, 3, 98] #[25, 28] false), 1, 8, [.nilFunc], false, []⟩
theorem tio97 : TIOk Try.prog (97, ti97) := ⟨by kernel_rfl, by kernel_rfl, by kernel_rfl, nofun⟩
def ti98 : TI := ⟨(TypeDesc.func #[81, 2] #[] false), 1, 8, [.nilFunc], false, []⟩
theorem tio98 : TIOk Try.prog (98, ti98) := ⟨by kernel_rfl, by kernel_rfl, by kernel_rfl, nofun⟩
def ti99 : TI := ⟨(TypeDesc.func #[100, 3] #[28] false), 1, 8, [.nilFunc], false, []⟩
theorem tio99 : TIOk Try.prog (99, ti99) := ⟨by kernel_rfl, by kernel_rfl, by kernel_rfl, nofun⟩
def ti100 : TI := ⟨(TypeDesc.pointer 25), 1, 8, [.pointer none], false, []⟩
theorem tio100 : TIOk Try.prog (100, ti100) := ⟨by kernel_rfl, by kernel_rfl, by kernel_rfl, nofun⟩
def ti101 : TI := ⟨(TypeDesc.func #[31] #[31] false), 1, 8, [.nilFunc], false, []⟩
theorem tio101 : TIOk Try.prog (101, ti101) := ⟨by kernel_rfl, by kernel_rfl, by kernel_rfl, nofun⟩
def ti102 : TI := ⟨(TypeDesc.func #[22, 103] #[4] false), 1, 8, [.nilFunc], false, []⟩
theorem tio102 : TIOk Try.prog (102, ti102) := ⟨by kernel_rfl, by kernel_rfl, by kernel_rfl, nofun⟩
def ti103 : TI := ⟨(TypeDesc.func #[54] #[4] false), 1, 8, [.nilFunc], false, []⟩
theorem tio103 : TIOk Try.prog (103, ti103) := ⟨by kernel_rfl, by kernel_rfl, by kernel_rfl, nofun⟩
def ti104 : TI := ⟨(TypeDesc.func #[22] #[22] false), 1, 8, [.nilFunc], false, []⟩
theorem tio104 : TIOk Try.prog (104, ti104) := ⟨by kernel_rfl, by kernel_rfl, by kernel_rfl, nofun⟩
def ti105 : TI := ⟨(TypeDesc.func #[67, 67] #[4] false), 1, 8, [.nilFunc], false, []⟩
theorem tio105 : TIOk Try.prog (105, ti105) := ⟨by kernel_rfl, by kernel_rfl, by kernel_rfl, nofun⟩
def ti106 : TI := ⟨(TypeDesc.func #[32, 32] #[4] false), 1, 8, [.nilFunc], false, []⟩
theorem tio106 : TIOk Try.prog (106, ti106) := ⟨by kernel_rfl, by kernel_rfl, by kernel_rfl, nofun⟩
def ti107 : TI := ⟨(TypeDesc.func #[31, 31] #[4] false), 1, 8, [.nilFunc], false, []⟩
theorem tio107 : TIOk Try.prog (107, ti107) := ⟨by kernel_rfl, by kernel_rfl, by kernel_rfl, nofun⟩
def ti108 : TI := ⟨(TypeDesc.func #[25, 3, 54] #[25, 28] false), 1, 8, [.nilFunc], false, []⟩
theorem tio108 : TIOk Try.prog (108, ti108) := ⟨by kernel_rfl, by kernel_rfl, by kernel_rfl, nofun⟩
def ti109 : TI := ⟨(TypeDesc.tuple #[2, 28]), 1, 0, [.tuple { toList := [.int .i64 0, .int .i64 0] }], false, []⟩
theorem tio109 : TIOk Try.prog (109, ti109) := ⟨by kernel_rfl, by kernel_rfl, by kernel_rfl, nofun⟩
def ti110 : TI := ⟨(TypeDesc.func #[25] #[2, 28] false), 1, 8, [.nilFunc], false, []⟩
theorem tio110 : TIOk Try.prog (110, ti110) := ⟨by kernel_rfl, by kernel_rfl, by kernel_rfl, nofun⟩
def ti111 : TI := ⟨(TypeDesc.func #[100] #[4] false), 1, 8, [.nilFunc], false, []⟩
theorem tio111 : TIOk Try.prog (111, ti111) := ⟨by kernel_rfl, by kernel_rfl, by kernel_rfl, nofun⟩
def ti112 : TI := ⟨(TypeDesc.func #[81] #[4] false), 1, 8, [.nilFunc], false, []⟩
theorem tio112 : TIOk Try.prog (112, ti112) := ⟨by kernel_rfl, by kernel_rfl, by kernel_rfl, nofun⟩
def ti113 : TI := ⟨(TypeDesc.tuple #[3, 28]), 1, 0, [.tuple { toList := [.int .i64 0, .int .i64 0] }], false, []⟩
theorem tio113 : TIOk Try.prog (113, ti113) := ⟨by kernel_rfl, by kernel_rfl, by kernel_rfl, nofun⟩
def ti114 : TI := ⟨(TypeDesc.func #[100, 2] #[3, 28] false), 1, 8, [.nilFunc], false, []⟩
theorem tio114 : TIOk Try.prog (114, ti114) := ⟨by kernel_rfl, by kernel_rfl, by kernel_rfl, nofun⟩
def ti115 : TI := ⟨(TypeDesc.func #[67] #[67] false), 1, 8, [.nilFunc], false, []⟩
theorem tio115 : TIOk Try.prog (115, ti115) := ⟨by kernel_rfl, by kernel_rfl, by kernel_rfl, nofun⟩
def ti116 : TI := ⟨(TypeDesc.array 4 3), 4, 32, [.int .i64 0, .int .i64 0, .int .i64 0, .int .i64 0], false, []⟩
theorem tio116 : TIOk Try.prog (116, ti116) := ⟨by kernel_rfl, by kernel_rfl, by kernel_rfl, nofun⟩
def ti117 : TI := ⟨(TypeDesc.func #[80, 3] #[4] false), 1, 8, [.nilFunc], false, []⟩
theorem tio117 : TIOk Try.prog (117, ti117) := ⟨by kernel_rfl, by kernel_rfl, by kernel_rfl, nofun⟩
def ti118 : TI := ⟨(TypeDesc.struct #[{ name := "At", type := 2, offset := 0, embedded := false, tag := "", pkgPath := "", byteOffset := 0 }, { name := "Bytes", type := 31, offset := 1, embedded := false, tag := "", pkgPath := "", byteOffset := 8 }]), 2, 32, [.int .i64 0, .slice none 0 0], true, []⟩
theorem tio118 : TIOk Try.prog (118, ti118) := ⟨by kernel_rfl, by kernel_rfl, by kernel_rfl, fun _ => ⟨by kernel_rfl, by kernel_rfl⟩⟩
def ti119 : TI := ⟨(TypeDesc.struct #[{ name := "At", type := 2, offset := 0, embedded := false, tag := "", pkgPath := "", byteOffset := 0 }, { name := "Bytes", type := 31, offset := 1, embedded := false, tag := "", pkgPath := "", byteOffset := 8 }]), 2, 32, [.int .i64 0, .slice none 0 0], true, []⟩
theorem tio119 : TIOk Try.prog (119, ti119) := ⟨by kernel_rfl, by kernel_rfl, by kernel_rfl, fun _ => ⟨by kernel_rfl, by kernel_rfl⟩⟩
def ti120 : TI := ⟨(TypeDesc.func #[23] #[23] false), 1, 8, [.nilFunc], false, []⟩
theorem tio120 : TIOk Try.prog (120, ti120) := ⟨by kernel_rfl, by kernel_rfl, by kernel_rfl, nofun⟩
def ti121 : TI := ⟨(TypeDesc.func #[] #[2] false), 1, 8, [.nilFunc], false, []⟩
theorem tio121 : TIOk Try.prog (121, ti121) := ⟨by kernel_rfl, by kernel_rfl, by kernel_rfl, nofun⟩
def ti122 : TI := ⟨(TypeDesc.func #[22, 103] #[3] false), 1, 8, [.nilFunc], false, []⟩
theorem tio122 : TIOk Try.prog (122, ti122) := ⟨by kernel_rfl, by kernel_rfl, by kernel_rfl, nofun⟩
def ti123 : TI := ⟨(TypeDesc.func #[3, 3, 3] #[4] false), 1, 8, [.nilFunc], false, []⟩
theorem tio123 : TIOk Try.prog (123, ti123) := ⟨by kernel_rfl, by kernel_rfl, by kernel_rfl, nofun⟩
def ti124 : TI := ⟨(TypeDesc.func #[65, 65] #[4] false), 1, 8, [.nilFunc], false, []⟩
theorem tio124 : TIOk Try.prog (124, ti124) := ⟨by kernel_rfl, by kernel_rfl, by kernel_rfl, nofun⟩
def ti125 : TI := ⟨(TypeDesc.func #[25, 3] #[28] false), 1, 8, [.nilFunc], false, []⟩
theorem tio125 : TIOk Try.prog (125, ti125) := ⟨by kernel_rfl, by kernel_rfl, by kernel_rfl, nofun⟩
def ti126 : TI := ⟨(TypeDesc.tuple #[65, 31, 3, 2, 3, 4]), 1, 0, [.tuple { toList := [.slice none 0 0, .slice none 0 0, .int .i64 0, .int .i64 0, .int .i64 0, .bool false] }], false, []⟩
theorem tio126 : TIOk Try.prog (126, ti126) := ⟨by kernel_rfl, by kernel_rfl, by kernel_rfl, nofun⟩
def ti127 : TI := ⟨(TypeDesc.func #[65, 31, 3, 2, 3, 2] #[65, 31, 3, 2, 3, 4] false), 1, 8, [.nilFunc], false, []⟩
theorem tio127 : TIOk Try.prog (127, ti127) := ⟨by kernel_rfl, by kernel_rfl, by kernel_rfl, nofun⟩
def ti128 : TI := ⟨(TypeDesc.func #[25, 2] #[3, 28] false), 1, 8, [.nilFunc], false, []⟩
theorem tio128 : TIOk Try.prog (128, ti128) := ⟨by kernel_rfl, by kernel_rfl, by kernel_rfl, nofun⟩
def ti129 : TI := ⟨(TypeDesc.func #[65] #[3] false), 1, 8, [.nilFunc], false, []⟩
theorem tio129 : TIOk Try.prog (129, ti129) := ⟨by kernel_rfl, by kernel_rfl, by kernel_rfl, nofun⟩
def ti130 : TI := ⟨(TypeDesc.func #[65, 2, 2] #[2] false), 1, 8, [.nilFunc], false, []⟩
theorem tio130 : TIOk Try.prog (130, ti130) := ⟨by kernel_rfl, by kernel_rfl, by kernel_rfl, nofun⟩
def ti131 : TI := ⟨(TypeDesc.func #[25, 2, 2] #[3, 28] false), 1, 8, [.nilFunc], false, []⟩
theorem tio131 : TIOk Try.prog (131, ti131) := ⟨by kernel_rfl, by kernel_rfl, by kernel_rfl, nofun⟩
def ti132 : TI := ⟨(TypeDesc.func #[67] #[4] false), 1, 8, [.nilFunc], false, []⟩
theorem tio132 : TIOk Try.prog (132, ti132) := ⟨by kernel_rfl, by kernel_rfl, by kernel_rfl, nofun⟩
def ti133 : TI := ⟨(TypeDesc.func #[2, 65, 3, 2] #[2] false), 1, 8, [.nilFunc], false, []⟩
theorem tio133 : TIOk Try.prog (133, ti133) := ⟨by kernel_rfl, by kernel_rfl, by kernel_rfl, nofun⟩
def ti134 : TI := ⟨(TypeDesc.func #[23, 132] #[3] false), 1, 8, [.nilFunc], false, []⟩
theorem tio134 : TIOk Try.prog (134, ti134) := ⟨by kernel_rfl, by kernel_rfl, by kernel_rfl, nofun⟩
def ti135 : TI := ⟨(TypeDesc.func #[65] #[65] false), 1, 8, [.nilFunc], false, []⟩
theorem tio135 : TIOk Try.prog (135, ti135) := ⟨by kernel_rfl, by kernel_rfl, by kernel_rfl, nofun⟩
def ti136 : TI := ⟨(TypeDesc.pointer 119), 1, 8, [.pointer none], false, []⟩
theorem tio136 : TIOk Try.prog (136, ti136) := ⟨by kernel_rfl, by kernel_rfl, by kernel_rfl, nofun⟩
def ti137 : TI := ⟨(TypeDesc.func #[80, 3] #[3] false), 1, 8, [.nilFunc], false, []⟩
theorem tio137 : TIOk Try.prog (137, ti137) := ⟨by kernel_rfl, by kernel_rfl, by kernel_rfl, nofun⟩
def ti138 : TI := ⟨(TypeDesc.func #[25] #[4] false), 1, 8, [.nilFunc], false, []⟩
theorem tio138 : TIOk Try.prog (138, ti138) := ⟨by kernel_rfl, by kernel_rfl, by kernel_rfl, nofun⟩
def ti139 : TI := ⟨(TypeDesc.func #[65] #[4] false), 1, 8, [.nilFunc], false, []⟩
theorem tio139 : TIOk Try.prog (139, ti139) := ⟨by kernel_rfl, by kernel_rfl, by kernel_rfl, nofun⟩
def ti140 : TI := ⟨(TypeDesc.func #[3] #[4] false), 1, 8, [.nilFunc], false, []⟩
theorem tio140 : TIOk Try.prog (140, ti140) := ⟨by kernel_rfl, by kernel_rfl, by kernel_rfl, nofun⟩
def ti141 : TI := ⟨(TypeDesc.func #[65, 3, 2, 3, 2] #[4] false), 1, 8, [.nilFunc], false, []⟩
theorem tio141 : TIOk Try.prog (141, ti141) := ⟨by kernel_rfl, by kernel_rfl, by kernel_rfl, nofun⟩
def ti142 : TI := ⟨(TypeDesc.func #[] #[9] false), 1, 8, [.nilFunc], false, []⟩
theorem tio142 : TIOk Try.prog (142, ti142) := ⟨by kernel_rfl, by kernel_rfl, by kernel_rfl, nofun⟩
def ti143 : TI := ⟨(TypeDesc.struct #[{ name := "_interface", type := 17, offset := 0, embedded := false, tag := "", pkgPath := "runtime", byteOffset := 0 }, { name := "concrete", type := 17, offset := 1, embedded := false, tag := "", pkgPath := "runtime", byteOffset := 8 }, { name := "asserted", type := 17, offset := 2, embedded := false, tag := "", pkgPath := "runtime", byteOffset := 16 }, { name := "missingMethod", type := 9, offset := 3, embedded := false, tag := "", pkgPath := "runtime", byteOffset := 24 }]), 4, 40, [.pointer none, .pointer none, .pointer none, .string { data := #[] }], false, []⟩
theorem tio143 : TIOk Try.prog (143, ti143) := ⟨by kernel_rfl, by kernel_rfl, by kernel_rfl, nofun⟩
def ti144 : TI := ⟨(TypeDesc.struct #[{ name := "_interface", type := 17, offset := 0, embedded := false, tag := "", pkgPath := "runtime", byteOffset := 0 }, { name := "concrete", type := 17, offset := 1, embedded := false, tag := "", pkgPath := "runtime", byteOffset := 8 }, { name := "asserted", type := 17, offset := 2, embedded := false, tag := "", pkgPath := "runtime", byteOffset := 16 }, { name := "missingMethod", type := 9, offset := 3, embedded := false, tag := "", pkgPath := "runtime", byteOffset := 24 }]), 4, 40, [.pointer none, .pointer none, .pointer none, .string { data := #[] }], false, []⟩
theorem tio144 : TIOk Try.prog (144, ti144) := ⟨by kernel_rfl, by kernel_rfl, by kernel_rfl, nofun⟩
def ti145 : TI := ⟨(TypeDesc.array 0 16), 0, 0, [], false, []⟩
theorem tio145 : TIOk Try.prog (145, ti145) := ⟨by kernel_rfl, by kernel_rfl, by kernel_rfl, nofun⟩
def ti146 : TI := ⟨(TypeDesc.struct #[{ name := "_", type := 145, offset := 0, embedded := false, tag := "", pkgPath := "runtime", byteOffset := 0 }]), 0, 0, [], false, []⟩
theorem tio146 : TIOk Try.prog (146, ti146) := ⟨by kernel_rfl, by kernel_rfl, by kernel_rfl, nofun⟩
def ti147 : TI := ⟨(TypeDesc.struct #[{ name := "_", type := 145, offset := 0, embedded := false, tag := "", pkgPath := "runtime", byteOffset := 0 }]), 0, 0, [], false, []⟩
theorem tio147 : TIOk Try.prog (147, ti147) := ⟨by kernel_rfl, by kernel_rfl, by kernel_rfl, nofun⟩
def ti148 : TI := ⟨(TypeDesc.int IntKind.u32), 1, 4, [.int .u32 0], false, []⟩
theorem tio148 : TIOk Try.prog (148, ti148) := ⟨by kernel_rfl, by kernel_rfl, by kernel_rfl, nofun⟩
def ti149 : TI := ⟨(TypeDesc.int IntKind.u8), 1, 1, [.int .u8 0], false, []⟩
theorem tio149 : TIOk Try.prog (149, ti149) := ⟨by kernel_rfl, by kernel_rfl, by kernel_rfl, nofun⟩
def ti150 : TI := ⟨(TypeDesc.int IntKind.u8), 1, 1, [.int .u8 0], false, []⟩
theorem tio150 : TIOk Try.prog (150, ti150) := ⟨by kernel_rfl, by kernel_rfl, by kernel_rfl, nofun⟩
def ti151 : TI := ⟨(TypeDesc.func #[157, 157] #[4] false), 1, 8, [.nilFunc], false, []⟩
theorem tio151 : TIOk Try.prog (151, ti151) := ⟨by kernel_rfl, by kernel_rfl, by kernel_rfl, nofun⟩
def ti152 : TI := ⟨(TypeDesc.pointer 5), 1, 8, [.pointer none], false, []⟩
theorem tio152 : TIOk Try.prog (152, ti152) := ⟨by kernel_rfl, by kernel_rfl, by kernel_rfl, nofun⟩
def ti153 : TI := ⟨(TypeDesc.int IntKind.i32), 1, 4, [.int .i32 0], false, []⟩
theorem tio153 : TIOk Try.prog (153, ti153) := ⟨by kernel_rfl, by kernel_rfl, by kernel_rfl, nofun⟩
def ti154 : TI := ⟨(TypeDesc.int IntKind.i32), 1, 4, [.int .i32 0], false, []⟩
theorem tio154 : TIOk Try.prog (154, ti154) := ⟨by kernel_rfl, by kernel_rfl, by kernel_rfl, nofun⟩
def ti155 : TI := ⟨(TypeDesc.struct #[{ name := "Size_", type := 12, offset := 0, embedded := false, tag := "", pkgPath := "", byteOffset := 0 }, { name := "PtrBytes", type := 12, offset := 1, embedded := false, tag := "", pkgPath := "", byteOffset := 8 }, { name := "Hash", type := 148, offset := 2, embedded := false, tag := "", pkgPath := "", byteOffset := 16 }, { name := "TFlag", type := 149, offset := 3, embedded := false, tag := "", pkgPath := "", byteOffset := 20 }, { name := "Align_", type := 5, offset := 4, embedded := false, tag := "", pkgPath := "", byteOffset := 21 }, { name := "FieldAlign_", type := 5, offset := 5, embedded := false, tag := "", pkgPath := "", byteOffset := 22 }, { name := "Kind_", type := 150, offset := 6, embedded := false, tag := "", pkgPath := "", byteOffset := 23 }, { name := "Equal", type := 151, offset := 7, embedded := false, tag := "", pkgPath := "", byteOffset := 24 }, { name := "GCData", type := 152, offset := 8, embedded := false, tag := "", pkgPath := "", byteOffset := 32 }, { name := "Str", type := 153, offset := 9, embedded := false, tag := "", pkgPath := "", byteOffset := 40 }, { name := "PtrToThis", type := 154, offset := 10, embedded := false, tag := "", pkgPath := "", byteOffset := 44 }]), 11, 48, [.int .u64 0, .int .u64 0, .int .u32 0, .int .u8 0, .int .u8 0, .int .u8 0, .int .u8 0, .nilFunc, .pointer none, .int .i32 0, .int .i32 0], false, []⟩
theorem tio155 : TIOk Try.prog (155, ti155) := ⟨by kernel_rfl, by kernel_rfl, by kernel_rfl, nofun⟩
def ti156 : TI := ⟨(TypeDesc.struct #[{ name := "Size_", type := 12, offset := 0, embedded := false, tag := "", pkgPath := "", byteOffset := 0 }, { name := "PtrBytes", type := 12, offset := 1, embedded := false, tag := "", pkgPath := "", byteOffset := 8 }, { name := "Hash", type := 148, offset := 2, embedded := false, tag := "", pkgPath := "", byteOffset := 16 }, { name := "TFlag", type := 149, offset := 3, embedded := false, tag := "", pkgPath := "", byteOffset := 20 }, { name := "Align_", type := 5, offset := 4, embedded := false, tag := "", pkgPath := "", byteOffset := 21 }, { name := "FieldAlign_", type := 5, offset := 5, embedded := false, tag := "", pkgPath := "", byteOffset := 22 }, { name := "Kind_", type := 150, offset := 6, embedded := false, tag := "", pkgPath := "", byteOffset := 23 }, { name := "Equal", type := 151, offset := 7, embedded := false, tag := "", pkgPath := "", byteOffset := 24 }, { name := "GCData", type := 152, offset := 8, embedded := false, tag := "", pkgPath := "", byteOffset := 32 }, { name := "Str", type := 153, offset := 9, embedded := false, tag := "", pkgPath := "", byteOffset := 40 }, { name := "PtrToThis", type := 154, offset := 10, embedded := false, tag := "", pkgPath := "", byteOffset := 44 }]), 11, 48, [.int .u64 0, .int .u64 0, .int .u32 0, .int .u8 0, .int .u8 0, .int .u8 0, .int .u8 0, .nilFunc, .pointer none, .int .i32 0, .int .i32 0], false, []⟩
theorem tio156 : TIOk Try.prog (156, ti156) := ⟨by kernel_rfl, by kernel_rfl, by kernel_rfl, nofun⟩
def ti157 : TI := ⟨TypeDesc.unsafePointer, 1, 8, [.pointer none], false, []⟩
theorem tio157 : TIOk Try.prog (157, ti157) := ⟨by kernel_rfl, by kernel_rfl, by kernel_rfl, nofun⟩
def tb : Tab := [(0, ti0), (1, ti1), (2, ti2), (3, ti3), (4, ti4), (5, ti5), (6, ti6), (7, ti7), (8, ti8), (9, ti9), (10, ti10), (11, ti11), (12, ti12), (13, ti13), (14, ti14), (15, ti15), (16, ti16), (17, ti17), (18, ti18), (19, ti19), (20, ti20), (21, ti21), (22, ti22), (23, ti23), (24, ti24), (25, ti25), (26, ti26), (27, ti27), (28, ti28), (29, ti29), (30, ti30), (31, ti31), (32, ti32), (33, ti33), (34, ti34), (35, ti35), (36, ti36), (37, ti37), (38, ti38), (39, ti39), (40, ti40), (41, ti41), (42, ti42), (43, ti43), (44, ti44), (45, ti45), (46, ti46), (47, ti47), (48, ti48), (49, ti49), (50, ti50), (51, ti51), (52, ti52), (53, ti53), (54, ti54), (55, ti55), (56, ti56), (57, ti57), (58, ti58), (59, ti59), (64, ti64), (65, ti65), (66, ti66), (67, ti67), (68, ti68), (69, ti69), (70, ti70), (71, ti71), (72, ti72), (73, ti73), (74, ti74), (75, ti75), (76, ti76), (77, ti77), (78, ti78), (79, ti79), (80, ti80), (81, ti81), (82, ti82), (83, ti83), (84, ti84), (85, ti85), (86, ti86), (87, ti87), (88, ti88), (89, ti89), (90, ti90), (91, ti91), (92, ti92), (93, ti93), (94, ti94), (95, ti95), (96, ti96), (97, ti97), (98, ti98), (99, ti99), (100, ti100), (101, ti101), (102, ti102), (103, ti103), (104, ti104), (105, ti105), (106, ti106), (107, ti107), (108, ti108), (109, ti109), (110, ti110), (111, ti111), (112, ti112), (113, ti113), (114, ti114), (115, ti115), (116, ti116), (117, ti117), (118, ti118), (119, ti119), (120, ti120), (121, ti121), (122, ti122), (123, ti123), (124, ti124), (125, ti125), (126, ti126), (127, ti127), (128, ti128), (129, ti129), (130, ti130), (131, ti131), (132, ti132), (133, ti133), (134, ti134), (135, ti135), (136, ti136), (137, ti137), (138, ti138), (139, ti139), (140, ti140), (141, ti141), (142, ti142), (143, ti143), (144, ti144), (145, ti145), (146, ti146), (147, ti147), (148, ti148), (149, ti149), (150, ti150), (151, ti151), (152, ti152), (153, ti153), (154, ti154), (155, ti155), (156, ti156), (157, ti157)]
theorem tbOk : TabOk Try.prog tb := ⟨tio0, tio1, tio2, tio3, tio4, tio5, tio6, tio7, tio8, tio9, tio10, tio11, tio12, tio13, tio14, tio15, tio16, tio17, tio18, tio19, tio20, tio21, tio22, tio23, tio24, tio25, tio26, tio27, tio28, tio29, tio30, tio31, tio32, tio33, tio34, tio35, tio36, tio37, tio38, tio39, tio40, tio41, tio42, tio43, tio44, tio45, tio46, tio47, tio48, tio49, tio50, tio51, tio52, tio53, tio54, tio55, tio56, tio57, tio58, tio59, tio64, tio65, tio66, tio67, tio68, tio69, tio70, tio71, tio72, tio73, tio74, tio75, tio76, tio77, tio78, tio79, tio80, tio81, tio82, tio83, tio84, tio85, tio86, tio87, tio88, tio89, tio90, tio91, tio92, tio93, tio94, tio95, tio96, tio97, tio98, tio99, tio100, tio101, tio102, tio103, tio104, tio105, tio106, tio107, tio108, tio109, tio110, tio111, tio112, tio113, tio114, tio115, tio116, tio117, tio118, tio119, tio120, tio121, tio122, tio123, tio124, tio125, tio126, tio127, tio128, tio129, tio130, tio131, tio132, tio133, tio134, tio135, tio136, tio137, tio138, tio139, tio140, tio141, tio142, tio143, tio144, tio145, tio146, tio147, tio148, tio149, tio150, tio151, tio152, tio153, tio154, tio155, tio156, tio157, trivial⟩
theorem mixed : Try.prog.follows .mixedOrders = true := by kernel_rfl
theorem pl3 : Plain Try.prog 3 := fun _ _ => by kernel_rfl
theorem pl4 : Plain Try.prog 4 := fun _ _ => by kernel_rfl
theorem pl5 : Plain Try.prog 5 := fun _ _ => by kernel_rfl
theorem pl6 : Plain Try.prog 6 := fun _ _ => by kernel_rfl
theorem pl7 : Plain Try.prog 7 := fun _ _ => by kernel_rfl
theorem pl8 : Plain Try.prog 8 := fun _ _ => by kernel_rfl
theorem pl9 : Plain Try.prog 9 := fun _ _ => by kernel_rfl
theorem pl10 : Plain Try.prog 10 := fun _ _ => by kernel_rfl
theorem pl11 : Plain Try.prog 11 := fun _ _ => by kernel_rfl
theorem pl12 : Plain Try.prog 12 := fun _ _ => by kernel_rfl
theorem pl13 : Plain Try.prog 13 := fun _ _ => by kernel_rfl
theorem pl14 : Plain Try.prog 14 := fun _ _ => by kernel_rfl
theorem pl15 : Plain Try.prog 15 := fun _ _ => by kernel_rfl
theorem pl16 : Plain Try.prog 16 := fun _ _ => by kernel_rfl
theorem pl17 : Plain Try.prog 17 := fun _ _ => by kernel_rfl
theorem pl18 : Plain Try.prog 18 := fun _ _ => by kernel_rfl
theorem pl19 : Plain Try.prog 19 := fun _ _ => by kernel_rfl
theorem pl20 : Plain Try.prog 20 := fun _ _ => by kernel_rfl
theorem pl21 : Plain Try.prog 21 := fun _ _ => by kernel_rfl
theorem pl22 : Plain Try.prog 22 := fun _ _ => by kernel_rfl
theorem pl23 : Plain Try.prog 23 := fun _ _ => by kernel_rfl
theorem pl24 : Plain Try.prog 24 := fun _ _ => by kernel_rfl
theorem pl25 : Plain Try.prog 25 := fun _ _ => by kernel_rfl
theorem pl26 : Plain Try.prog 26 := fun _ _ => by kernel_rfl
theorem pl27 : Plain Try.prog 27 := fun _ _ => by kernel_rfl
theorem pl28 : Plain Try.prog 28 := fun _ _ => by kernel_rfl
theorem pl29 : Plain Try.prog 29 := fun _ _ => by kernel_rfl
theorem pl30 : Plain Try.prog 30 := fun _ _ => by kernel_rfl
theorem pl31 : Plain Try.prog 31 := fun _ _ => by kernel_rfl
theorem pl32 : Plain Try.prog 32 := fun _ _ => by kernel_rfl
theorem pl33 : Plain Try.prog 33 := fun _ _ => by kernel_rfl
theorem pl34 : Plain Try.prog 34 := fun _ _ => by kernel_rfl
theorem pl35 : Plain Try.prog 35 := fun _ _ => by kernel_rfl
theorem pl36 : Plain Try.prog 36 := fun _ _ => by kernel_rfl
theorem pl37 : Plain Try.prog 37 := fun _ _ => by kernel_rfl
theorem pl38 : Plain Try.prog 38 := fun _ _ => by kernel_rfl
theorem pl39 : Plain Try.prog 39 := fun _ _ => by kernel_rfl
theorem pl40 : Plain Try.prog 40 := fun _ _ => by kernel_rfl
theorem pl41 : Plain Try.prog 41 := fun _ _ => by kernel_rfl
theorem pl42 : Plain Try.prog 42 := fun _ _ => by kernel_rfl
theorem pl43 : Plain Try.prog 43 := fun _ _ => by kernel_rfl
theorem pl44 : Plain Try.prog 44 := fun _ _ => by kernel_rfl
theorem pl45 : Plain Try.prog 45 := fun _ _ => by kernel_rfl
theorem pl46 : Plain Try.prog 46 := fun _ _ => by kernel_rfl
theorem pl47 : Plain Try.prog 47 := fun _ _ => by kernel_rfl
theorem pl48 : Plain Try.prog 48 := fun _ _ => by kernel_rfl
theorem pl49 : Plain Try.prog 49 := fun _ _ => by kernel_rfl
theorem pl50 : Plain Try.prog 50 := fun _ _ => by kernel_rfl
theorem pl51 : Plain Try.prog 51 := fun _ _ => by kernel_rfl
theorem pl52 : Plain Try.prog 52 := fun _ _ => by kernel_rfl
theorem pl53 : Plain Try.prog 53 := fun _ _ => by kernel_rfl
theorem pl54 : Plain Try.prog 54 := fun _ _ => by kernel_rfl
theorem pl55 : Plain Try.prog 55 := fun _ _ => by kernel_rfl
theorem pl56 : Plain Try.prog 56 := fun _ _ => by kernel_rfl
theorem pl57 : Plain Try.prog 57 := fun _ _ => by kernel_rfl
theorem pl58 : Plain Try.prog 58 := fun _ _ => by kernel_rfl
theorem pl59 : Plain Try.prog 59 := fun _ _ => by kernel_rfl
theorem pl60 : Plain Try.prog 60 := fun _ _ => by kernel_rfl
theorem pl61 : Plain Try.prog 61 := fun _ _ => by kernel_rfl
theorem pl62 : Plain Try.prog 62 := fun _ _ => by kernel_rfl
theorem pl63 : Plain Try.prog 63 := fun _ _ => by kernel_rfl
theorem pl64 : Plain Try.prog 64 := fun _ _ => by kernel_rfl
theorem pl65 : Plain Try.prog 65 := fun _ _ => by kernel_rfl
theorem pl66 : Plain Try.prog 66 := fun _ _ => by kernel_rfl
theorem pl67 : Plain Try.prog 67 := fun _ _ => by kernel_rfl
theorem pl68 : Plain Try.prog 68 := fun _ _ => by kernel_rfl
theorem pl69 : Plain Try.prog 69 := fun _ _ => by kernel_rfl
theorem pl70 : Plain Try.prog 70 := fun _ _ => by kernel_rfl
theorem pl71 : Plain Try.prog 71 := fun _ _ => by kernel_rfl
theorem pl72 : Plain Try.prog 72 := fun _ _ => by kernel_rfl
theorem pl73 : Plain Try.prog 73 := fun _ _ => by kernel_rfl
theorem pl74 : Plain Try.prog 74 := fun _ _ => by kernel_rfl
theorem pl75 : Plain Try.prog 75 := fun _ _ => by kernel_rfl
theorem pl76 : Plain Try.prog 76 := fun _ _ => by kernel_rfl
theorem pl77 : Plain Try.prog 77 := fun _ _ => by kernel_rfl
theorem pl78 : Plain Try.prog 78 := fun _ _ => by kernel_rfl
theorem pl79 : Plain Try.prog 79 := fun _ _ => by kernel_rfl
theorem pl80 : Plain Try.prog 80 := fun _ _ => by kernel_rfl
theorem pl81 : Plain Try.prog 81 := fun _ _ => by kernel_rfl
theorem pl82 : Plain Try.prog 82 := fun _ _ => by kernel_rfl
theorem pl83 : Plain Try.prog 83 := fun _ _ => by kernel_rfl
theorem pl84 : Plain Try.prog 84 := fun _ _ => by kernel_rfl
theorem pl85 : Plain Try.prog 85 := fun _ _ => by kernel_rfl
theorem pl86 : Plain Try.prog 86 := fun _ _ => by kernel_rfl
theorem pl87 : Plain Try.prog 87 := fun _ _ => by kernel_rfl
theorem pl88 : Plain Try.prog 88 := fun _ _ => by kernel_rfl
theorem pl89 : Plain Try.prog 89 := fun _ _ => by kernel_rfl
theorem pl90 : Plain Try.prog 90 := fun _ _ => by kernel_rfl
theorem pl91 : Plain Try.prog 91 := fun _ _ => by kernel_rfl
theorem pl92 : Plain Try.prog 92 := fun _ _ => by kernel_rfl
theorem pl93 : Plain Try.prog 93 := fun _ _ => by kernel_rfl
theorem pl94 : Plain Try.prog 94 := fun _ _ => by kernel_rfl
theorem pl95 : Plain Try.prog 95 := fun _ _ => by kernel_rfl
theorem pl96 : Plain Try.prog 96 := fun _ _ => by kernel_rfl
theorem pl97 : Plain Try.prog 97 := fun _ _ => by kernel_rfl
theorem pl98 : Plain Try.prog 98 := fun _ _ => by kernel_rfl
theorem pl99 : Plain Try.prog 99 := fun _ _ => by kernel_rfl
theorem pl100 : Plain Try.prog 100 := fun _ _ => by kernel_rfl
theorem pl101 : Plain Try.prog 101 := fun _ _ => by kernel_rfl
theorem pl102 : Plain Try.prog 102 := fun _ _ => by kernel_rfl
theorem pl103 : Plain Try.prog 103 := fun _ _ => by kernel_rfl
theorem pl104 : Plain Try.prog 104 := fun _ _ => by kernel_rfl
theorem pl105 : Plain Try.prog 105 := fun _ _ => by kernel_rfl
theorem pl106 : Plain Try.prog 106 := fun _ _ => by kernel_rfl
theorem pl107 : Plain Try.prog 107 := fun _ _ => by kernel_rfl
@[simp] theorem keeps_eq : keepsOf tb = [2023031, 2080031, 2106031] := rfl
attribute [simp] ti0 ti1 ti2 ti3 ti4 ti5 ti6 ti7 ti8 ti9 ti10 ti11 ti12 ti13 ti14 ti15 ti16 ti17 ti18 ti19 ti20 ti21 ti22 ti23 ti24 ti25 ti26 ti27 ti28 ti29 ti30 ti31 ti32 ti33 ti34 ti35 ti36 ti37 ti38 ti39 ti40 ti41 ti42 ti43 ti44 ti45 ti46 ti47 ti48 ti49 ti50 ti51 ti52 ti53 ti54 ti55 ti56 ti57 ti58 ti59 ti64 ti65 ti66 ti67 ti68 ti69 ti70 ti71 ti72 ti73 ti74 ti75 ti76 ti77 ti78 ti79 ti80 ti81 ti82 ti83 ti84 ti85 ti86 ti87 ti88 ti89 ti90 ti91 ti92 ti93 ti94 ti95 ti96 ti97 ti98 ti99 ti100 ti101 ti102 ti103 ti104 ti105 ti106 ti107 ti108 ti109 ti110 ti111 ti112 ti113 ti114 ti115 ti116 ti117 ti118 ti119 ti120 ti121 ti122 ti123 ti124 ti125 ti126 ti127 ti128 ti129 ti130 ti131 ti132 ti133 ti134 ti135 ti136 ti137 ti138 ti139 ti140 ti141 ti142 ti143 ti144 ti145 ti146 ti147 ti148 ti149 ti150 ti151 ti152 ti153 ti154 ti155 ti156 ti157
@[simp] theorem tbl0 : look 0 tb = some ti0 := rfl
@[simp] theorem tbl1 : look 1 tb = some ti1 := rfl
@[simp] theorem tbl2 : look 2 tb = some ti2 := rfl
@[simp] theorem tbl3 : look 3 tb = some ti3 := rfl
@[simp] theorem tbl4 : look 4 tb = some ti4 := rfl
@[simp] theorem tbl5 : look 5 tb = some ti5 := rfl
@[simp] theorem tbl6 : look 6 tb = some ti6 := rfl
@[simp] theorem tbl7 : look 7 tb = some ti7 := rfl
@[simp] theorem tbl8 : look 8 tb = some ti8 := rfl
@[simp] theorem tbl9 : look 9 tb = some ti9 := rfl
@[simp] theorem tbl10 : look 10 tb = some ti10 := rfl
@[simp] theorem tbl11 : look 11 tb = some ti11 := rfl
@[simp] theorem tbl12 : look 12 tb = some ti12 := rfl
@[simp] theorem tbl13 : look 13 tb = some ti13 := rfl
@[simp] theorem tbl14 : look 14 tb = some ti14 := rfl
@[simp] theorem tbl15 : look 15 tb = some ti15 := rfl
@[simp] theorem tbl16 : look 16 tb = some ti16 := rfl
@[simp] theorem tbl17 : look 17 tb = some ti17 := rfl
@[simp] theorem tbl18 : look 18 tb = some ti18 := rfl
@[simp] theorem tbl19 : look 19 tb = some ti19 := rfl
@[simp] theorem tbl20 : look 20 tb = some ti20 := rfl
@[simp] theorem tbl21 : look 21 tb = some ti21 := rfl
@[simp] theorem tbl22 : look 22 tb = some ti22 := rfl
@[simp] theorem tbl23 : look 23 tb = some ti23 := rfl
@[simp] theorem tbl24 : look 24 tb = some ti24 := rfl
@[simp] theorem tbl25 : look 25 tb = some ti25 := rfl
@[simp] theorem tbl26 : look 26 tb = some ti26 := rfl
@[simp] theorem tbl27 : look 27 tb = some ti27 := rfl
@[simp] theorem tbl28 : look 28 tb = some ti28 := rfl
@[simp] theorem tbl29 : look 29 tb = some ti29 := rfl
@[simp] theorem tbl30 : look 30 tb = some ti30 := rfl
@[simp] theorem tbl31 : look 31 tb = some ti31 := rfl
@[simp] theorem tbl32 : look 32 tb = some ti32 := rfl
@[simp] theorem tbl33 : look 33 tb = some ti33 := rfl
@[simp] theorem tbl34 : look 34 tb = some ti34 := rfl
@[simp] theorem tbl35 : look 35 tb = some ti35 := rfl
@[simp] theorem tbl36 : look 36 tb = some ti36 := rfl
@[simp] theorem tbl37 : look 37 tb = some ti37 := rfl
@[simp] theorem tbl38 : look 38 tb = some ti38 := rfl
@[simp] theorem tbl39 : look 39 tb = some ti39 := rfl
@[simp] theorem tbl40 : look 40 tb = some ti40 := rfl
@[simp] theorem tbl41 : look 41 tb = some ti41 := rfl
@[simp] theorem tbl42 : look 42 tb = some ti42 := rfl
@[simp] theorem tbl43 : look 43 tb = some ti43 := rfl
@[simp] theorem tbl44 : look 44 tb = some ti44 := rfl
@[simp] theorem tbl45 : look 45 tb = some ti45 := rfl
@[simp] theorem tbl46 : look 46 tb = some ti46 := rfl
@[simp] theorem tbl47 : look 47 tb = some ti47 := rfl
@[simp] theorem tbl48 : look 48 tb = some ti48 := rfl
@[simp] theorem tbl49 : look 49 tb = some ti49 := rfl
@[simp] theorem tbl50 : look 50 tb = some ti50 := rfl
@[simp] theorem tbl51 : look 51 tb = some ti51 := rfl
@[simp] theorem tbl52 : look 52 tb = some ti52 := rfl
@[simp] theorem tbl53 : look 53 tb = some ti53 := rfl
@[simp] theorem tbl54 : look 54 tb = some ti54 := rfl
@[simp] theorem tbl55 : look 55 tb = some ti55 := rfl
@[simp] theorem tbl56 : look 56 tb = some ti56 := rfl
@[simp] theorem tbl57 : look 57 tb = some ti57 := rfl
@[simp] theorem tbl58 : look 58 tb = some ti58 := rfl
@[simp] theorem tbl59 : look 59 tb = some ti59 := rfl
@[simp] theorem tbl64 : look 64 tb = some ti64 := rfl
@[simp] theorem tbl65 : look 65 tb = some ti65 := rfl
@[simp] theorem tbl66 : look 66 tb = some ti66 := rfl
@[simp] theorem tbl67 : look 67 tb = some ti67 := rfl
@[simp] theorem tbl68 : look 68 tb = some ti68 := rfl
@[simp] theorem tbl69 : look 69 tb = some ti69 := rfl
@[simp] theorem tbl70 : look 70 tb = some ti70 := rfl
@[simp] theorem tbl71 : look 71 tb = some ti71 := rfl
@[simp] theorem tbl72 : look 72 tb = some ti72 := rfl
@[simp] theorem tbl73 : look 73 tb = some ti73 := rfl
@[simp] theorem tbl74 : look 74 tb = some ti74 := rfl
@[simp] theorem tbl75 : look 75 tb = some ti75 := rfl
@[simp] theorem tbl76 : look 76 tb = some ti76 := rfl
@[simp] theorem tbl77 : look 77 tb = some ti77 := rfl
@[simp] theorem tbl78 : look 78 tb = some ti78 := rfl
@[simp] theorem tbl79 : look 79 tb = some ti79 := rfl
@[simp] theorem tbl80 : look 80 tb = some ti80 := rfl
@[simp] theorem tbl81 : look 81 tb = some ti81 := rfl
@[simp] theorem tbl82 : look 82 tb = some ti82 := rfl
@[simp] theorem tbl83 : look 83 tb = some ti83 := rfl
@[simp] theorem tbl84 : look 84 tb = some ti84 := rfl
@[simp] theorem tbl85 : look 85 tb = some ti85 := rfl
@[simp] theorem tbl86 : look 86 tb = some ti86 := rfl
@[simp] theorem tbl87 : look 87 tb = some ti87 := rfl
@[simp] theorem tbl88 : look 88 tb = some ti88 := rfl
@[simp] theorem tbl89 : look 89 tb = some ti89 := rfl
@[simp] theorem tbl90 : look 90 tb = some ti90 := rfl
@[simp] theorem tbl91 : look 91 tb = some ti91 := rfl
@[simp] theorem tbl92 : look 92 tb = some ti92 := rfl
@[simp] theorem tbl93 : look 93 tb = some ti93 := rfl
@[simp] theorem tbl94 : look 94 tb = some ti94 := rfl
@[simp] theorem tbl95 : look 95 tb = some ti95 := rfl
@[simp] theorem tbl96 : look 96 tb = some ti96 := rfl
@[simp] theorem tbl97 : look 97 tb = some ti97 := rfl
@[simp] theorem tbl98 : look 98 tb = some ti98 := rfl
@[simp] theorem tbl99 : look 99 tb = some ti99 := rfl
@[simp] theorem tbl100 : look 100 tb = some ti100 := rfl
@[simp] theorem tbl101 : look 101 tb = some ti101 := rfl
@[simp] theorem tbl102 : look 102 tb = some ti102 := rfl
@[simp] theorem tbl103 : look 103 tb = some ti103 := rfl
@[simp] theorem tbl104 : look 104 tb = some ti104 := rfl
@[simp] theorem tbl105 : look 105 tb = some ti105 := rfl
@[simp] theorem tbl106 : look 106 tb = some ti106 := rfl
@[simp] theorem tbl107 : look 107 tb = some ti107 := rfl
@[simp] theorem tbl108 : look 108 tb = some ti108 := rfl
@[simp] theorem tbl109 : look 109 tb = some ti109 := rfl
@[simp] theorem tbl110 : look 110 tb = some ti110 := rfl
@[simp] theorem tbl111 : look 111 tb = some ti111 := rfl
@[simp] theorem tbl112 : look 112 tb = some ti112 := rfl
@[simp] theorem tbl113 : look 113 tb = some ti113 := rfl
@[simp] theorem tbl114 : look 114 tb = some ti114 := rfl
@[simp] theorem tbl115 : look 115 tb = some ti115 := rfl
@[simp] theorem tbl116 : look 116 tb = some ti116 := rfl
@[simp] theorem tbl117 : look 117 tb = some ti117 := rfl
@[simp] theorem tbl118 : look 118 tb = some ti118 := rfl
@[simp] theorem tbl119 : look 119 tb = some ti119 := rfl
@[simp] theorem tbl120 : look 120 tb = some ti120 := rfl
@[simp] theorem tbl121 : look 121 tb = some ti121 := rfl
@[simp] theorem tbl122 : look 122 tb = some ti122 := rfl
@[simp] theorem tbl123 : look 123 tb = some ti123 := rfl
@[simp] theorem tbl124 : look 124 tb = some ti124 := rfl
@[simp] theorem tbl125 : look 125 tb = some ti125 := rfl
@[simp] theorem tbl126 : look 126 tb = some ti126 := rfl
@[simp] theorem tbl127 : look 127 tb = some ti127 := rfl
@[simp] theorem tbl128 : look 128 tb = some ti128 := rfl
@[simp] theorem tbl129 : look 129 tb = some ti129 := rfl
@[simp] theorem tbl130 : look 130 tb = some ti130 := rfl
@[simp] theorem tbl131 : look 131 tb = some ti131 := rfl
@[simp] theorem tbl132 : look 132 tb = some ti132 := rfl
@[simp] theorem tbl133 : look 133 tb = some ti133 := rfl
@[simp] theorem tbl134 : look 134 tb = some ti134 := rfl
@[simp] theorem tbl135 : look 135 tb = some ti135 := rfl
@[simp] theorem tbl136 : look 136 tb = some ti136 := rfl
@[simp] theorem tbl137 : look 137 tb = some ti137 := rfl
@[simp] theorem tbl138 : look 138 tb = some ti138 := rfl
@[simp] theorem tbl139 : look 139 tb = some ti139 := rfl
@[simp] theorem tbl140 : look 140 tb = some ti140 := rfl
@[simp] theorem tbl141 : look 141 tb = some ti141 := rfl
@[simp] theorem tbl142 : look 142 tb = some ti142 := rfl
@[simp] theorem tbl143 : look 143 tb = some ti143 := rfl
@[simp] theorem tbl144 : look 144 tb = some ti144 := rfl
@[simp] theorem tbl145 : look 145 tb = some ti145 := rfl
@[simp] theorem tbl146 : look 146 tb = some ti146 := rfl
@[simp] theorem tbl147 : look 147 tb = some ti147 := rfl
@[simp] theorem tbl148 : look 148 tb = some ti148 := rfl
@[simp] theorem tbl149 : look 149 tb = some ti149 := rfl
@[simp] theorem tbl150 : look 150 tb = some ti150 := rfl
@[simp] theorem tbl151 : look 151 tb = some ti151 := rfl
@[simp] theorem tbl152 : look 152 tb = some ti152 := rfl
@[simp] theorem tbl153 : look 153 tb = some ti153 := rfl
@[simp] theorem tbl154 : look 154 tb = some ti154 := rfl
@[simp] theorem tbl155 : look 155 tb = some ti155 := rfl
@[simp] theorem tbl156 : look 156 tb = some ti156 := rfl
@[simp] theorem tbl157 : look 157 tb = some ti157 := rfl
end Go.Proofs.Ytgoklgibhmddoaa
