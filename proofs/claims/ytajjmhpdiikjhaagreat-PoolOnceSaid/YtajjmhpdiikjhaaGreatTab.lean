/- The types of this seat, and that they are the program's. No condition. -/
import Derived.Test.YtajjmhpdiikjhaaGreatProg
import Derived.Test.YtajjmhpdiikjhaaGreatV19
namespace Go.Proofs.YtajjmhpdiikjhaaGreat
open Go.RowKit
set_option maxRecDepth 20000
def ti0 : TI := ⟨(TypeDesc.tuple #[]), 1, 0, [.tuple #[]], false, [103, 111, 118, 142, 151, 1000025, 1000026]⟩
theorem tio0 : TIOk Tryz.prog (0, ti0) := ⟨by kernel_rfl, by kernel_rfl, by kernel_rfl, nofun⟩
def ti1 : TI := ⟨(TypeDesc.func #[] #[] false), 1, 8, [.nilFunc], false, []⟩
theorem tio1 : TIOk Tryz.prog (1, ti1) := ⟨by kernel_rfl, by kernel_rfl, by kernel_rfl, nofun⟩
def ti2 : TI := ⟨(TypeDesc.int IntKind.i64), 1, 8, [.int .i64 0], false, []⟩
theorem tio2 : TIOk Tryz.prog (2, ti2) := ⟨by kernel_rfl, by kernel_rfl, by kernel_rfl, nofun⟩
def ti3 : TI := ⟨(TypeDesc.int IntKind.i64), 1, 8, [.int .i64 0], false, []⟩
theorem tio3 : TIOk Tryz.prog (3, ti3) := ⟨by kernel_rfl, by kernel_rfl, by kernel_rfl, nofun⟩
def ti4 : TI := ⟨TypeDesc.bool, 1, 1, [.bool false], false, []⟩
theorem tio4 : TIOk Tryz.prog (4, ti4) := ⟨by kernel_rfl, by kernel_rfl, by kernel_rfl, nofun⟩
def ti5 : TI := ⟨(TypeDesc.int IntKind.u8), 1, 1, [.int .u8 0], false, []⟩
theorem tio5 : TIOk Tryz.prog (5, ti5) := ⟨by kernel_rfl, by kernel_rfl, by kernel_rfl, nofun⟩
def ti6 : TI := ⟨(TypeDesc.int IntKind.u8), 1, 1, [.int .u8 0], false, []⟩
theorem tio6 : TIOk Tryz.prog (6, ti6) := ⟨by kernel_rfl, by kernel_rfl, by kernel_rfl, nofun⟩
def ti7 : TI := ⟨(TypeDesc.struct #[{ name := "x", type := 2, offset := 0, embedded := false, tag := "", pkgPath := "runtime", byteOffset := 0 }, { name := "y", type := 3, offset := 1, embedded := false, tag := "", pkgPath := "runtime", byteOffset := 8 }, { name := "signed", type := 4, offset := 2, embedded := false, tag := "", pkgPath := "runtime", byteOffset := 16 }, { name := "code", type := 6, offset := 3, embedded := false, tag := "", pkgPath := "runtime", byteOffset := 17 }]), 4, 24, [.int .i64 0, .int .i64 0, .bool false, .int .u8 0], true, []⟩
theorem tio7 : TIOk Tryz.prog (7, ti7) := ⟨by kernel_rfl, by kernel_rfl, by kernel_rfl, fun _ => ⟨by kernel_rfl, by kernel_rfl⟩⟩
def ti8 : TI := ⟨(TypeDesc.struct #[{ name := "x", type := 2, offset := 0, embedded := false, tag := "", pkgPath := "runtime", byteOffset := 0 }, { name := "y", type := 3, offset := 1, embedded := false, tag := "", pkgPath := "runtime", byteOffset := 8 }, { name := "signed", type := 4, offset := 2, embedded := false, tag := "", pkgPath := "runtime", byteOffset := 16 }, { name := "code", type := 6, offset := 3, embedded := false, tag := "", pkgPath := "runtime", byteOffset := 17 }]), 4, 24, [.int .i64 0, .int .i64 0, .bool false, .int .u8 0], true, []⟩
theorem tio8 : TIOk Tryz.prog (8, ti8) := ⟨by kernel_rfl, by kernel_rfl, by kernel_rfl, fun _ => ⟨by kernel_rfl, by kernel_rfl⟩⟩
def ti9 : TI := ⟨TypeDesc.string, 1, 16, [.string { data := #[] }], false, []⟩
theorem tio9 : TIOk Tryz.prog (9, ti9) := ⟨by kernel_rfl, by kernel_rfl, by kernel_rfl, nofun⟩
def ti10 : TI := ⟨TypeDesc.string, 1, 16, [.string { data := #[] }], false, []⟩
theorem tio10 : TIOk Tryz.prog (10, ti10) := ⟨by kernel_rfl, by kernel_rfl, by kernel_rfl, nofun⟩
def ti11 : TI := ⟨TypeDesc.string, 1, 16, [.string { data := #[] }], false, []⟩
theorem tio11 : TIOk Tryz.prog (11, ti11) := ⟨by kernel_rfl, by kernel_rfl, by kernel_rfl, nofun⟩
def ti12 : TI := ⟨(TypeDesc.int IntKind.u64), 1, 8, [.int .u64 0], false, []⟩
theorem tio12 : TIOk Tryz.prog (12, ti12) := ⟨by kernel_rfl, by kernel_rfl, by kernel_rfl, nofun⟩
def ti13 : TI := ⟨(TypeDesc.struct #[{ name := "msg", type := 9, offset := 0, embedded := false, tag := "", pkgPath := "runtime", byteOffset := 0 }, { name := "addr", type := 12, offset := 1, embedded := false, tag := "", pkgPath := "runtime", byteOffset := 16 }]), 2, 24, [.string { data := #[] }, .int .u64 0], false, []⟩
theorem tio13 : TIOk Tryz.prog (13, ti13) := ⟨by kernel_rfl, by kernel_rfl, by kernel_rfl, nofun⟩
def ti14 : TI := ⟨(TypeDesc.struct #[{ name := "msg", type := 9, offset := 0, embedded := false, tag := "", pkgPath := "runtime", byteOffset := 0 }, { name := "addr", type := 12, offset := 1, embedded := false, tag := "", pkgPath := "runtime", byteOffset := 16 }]), 2, 24, [.string { data := #[] }, .int .u64 0], false, []⟩
theorem tio14 : TIOk Tryz.prog (14, ti14) := ⟨by kernel_rfl, by kernel_rfl, by kernel_rfl, nofun⟩
def ti15 : TI := ⟨(TypeDesc.pointer 205), 1, 8, [.pointer none], false, []⟩
theorem tio15 : TIOk Tryz.prog (15, ti15) := ⟨by kernel_rfl, by kernel_rfl, by kernel_rfl, nofun⟩
def ti16 : TI := ⟨(TypeDesc.pointer 208), 1, 8, [.pointer none], false, []⟩
theorem tio16 : TIOk Tryz.prog (16, ti16) := ⟨by kernel_rfl, by kernel_rfl, by kernel_rfl, nofun⟩
def ti17 : TI := ⟨(TypeDesc.pointer 218), 1, 8, [.pointer none], false, []⟩
theorem tio17 : TIOk Tryz.prog (17, ti17) := ⟨by kernel_rfl, by kernel_rfl, by kernel_rfl, nofun⟩
def ti18 : TI := ⟨(TypeDesc.struct #[{ name := "typ", type := 17, offset := 0, embedded := false, tag := "", pkgPath := "internal/runtime/maps", byteOffset := 0 }]), 1, 8, [.pointer none], false, []⟩
theorem tio18 : TIOk Tryz.prog (18, ti18) := ⟨by kernel_rfl, by kernel_rfl, by kernel_rfl, nofun⟩
def ti19 : TI := ⟨(TypeDesc.struct #[{ name := "typ", type := 17, offset := 0, embedded := false, tag := "", pkgPath := "internal/runtime/maps", byteOffset := 0 }]), 1, 8, [.pointer none], false, []⟩
theorem tio19 : TIOk Tryz.prog (19, ti19) := ⟨by kernel_rfl, by kernel_rfl, by kernel_rfl, nofun⟩
def ti20 : TI := ⟨(TypeDesc.interface #[]), 1, 16, [.nilIface], false, []⟩
theorem tio20 : TIOk Tryz.prog (20, ti20) := ⟨by kernel_rfl, by kernel_rfl, by kernel_rfl, nofun⟩
def ti21 : TI := ⟨(TypeDesc.int IntKind.i32), 1, 4, [.int .i32 0], false, []⟩
theorem tio21 : TIOk Tryz.prog (21, ti21) := ⟨by kernel_rfl, by kernel_rfl, by kernel_rfl, nofun⟩
def ti22 : TI := ⟨(TypeDesc.slice 92), 1, 24, [.slice none 0 0], false, []⟩
theorem tio22 : TIOk Tryz.prog (22, ti22) := ⟨by kernel_rfl, by kernel_rfl, by kernel_rfl, nofun⟩
def ti23 : TI := ⟨(TypeDesc.struct #[{ name := "Most", type := 3, offset := 0, embedded := false, tag := "", pkgPath := "", byteOffset := 0 }, { name := "Idle", type := 2, offset := 1, embedded := false, tag := "", pkgPath := "", byteOffset := 8 }, { name := "Age", type := 2, offset := 2, embedded := false, tag := "", pkgPath := "", byteOffset := 16 }, { name := "Conns", type := 22, offset := 3, embedded := false, tag := "", pkgPath := "", byteOffset := 24 }]), 4, 48, [.int .i64 0, .int .i64 0, .int .i64 0, .slice none 0 0], true, []⟩
theorem tio23 : TIOk Tryz.prog (23, ti23) := ⟨by kernel_rfl, by kernel_rfl, by kernel_rfl, fun _ => ⟨by kernel_rfl, by kernel_rfl⟩⟩
def ti24 : TI := ⟨(TypeDesc.struct #[{ name := "Most", type := 3, offset := 0, embedded := false, tag := "", pkgPath := "", byteOffset := 0 }, { name := "Idle", type := 2, offset := 1, embedded := false, tag := "", pkgPath := "", byteOffset := 8 }, { name := "Age", type := 2, offset := 2, embedded := false, tag := "", pkgPath := "", byteOffset := 16 }, { name := "Conns", type := 22, offset := 3, embedded := false, tag := "", pkgPath := "", byteOffset := 24 }]), 4, 48, [.int .i64 0, .int .i64 0, .int .i64 0, .slice none 0 0], true, []⟩
theorem tio24 : TIOk Tryz.prog (24, ti24) := ⟨by kernel_rfl, by kernel_rfl, by kernel_rfl, fun _ => ⟨by kernel_rfl, by kernel_rfl⟩⟩
def ti25 : TI := ⟨(TypeDesc.slice 71), 1, 24, [.slice none 0 0], false, []⟩
theorem tio25 : TIOk Tryz.prog (25, ti25) := ⟨by kernel_rfl, by kernel_rfl, by kernel_rfl, nofun⟩
def ti26 : TI := ⟨(TypeDesc.slice 66), 1, 24, [.slice none 0 0], false, []⟩
theorem tio26 : TIOk Tryz.prog (26, ti26) := ⟨by kernel_rfl, by kernel_rfl, by kernel_rfl, nofun⟩
def ti27 : TI := ⟨(TypeDesc.slice 130), 1, 24, [.slice none 0 0], false, []⟩
theorem tio27 : TIOk Tryz.prog (27, ti27) := ⟨by kernel_rfl, by kernel_rfl, by kernel_rfl, nofun⟩
def ti28 : TI := ⟨(TypeDesc.struct #[{ name := "Most", type := 3, offset := 0, embedded := false, tag := "", pkgPath := "", byteOffset := 0 }, { name := "Waiters", type := 27, offset := 1, embedded := false, tag := "", pkgPath := "", byteOffset := 8 }]), 2, 32, [.int .i64 0, .slice none 0 0], true, []⟩
theorem tio28 : TIOk Tryz.prog (28, ti28) := ⟨by kernel_rfl, by kernel_rfl, by kernel_rfl, fun _ => ⟨by kernel_rfl, by kernel_rfl⟩⟩
def ti29 : TI := ⟨(TypeDesc.struct #[{ name := "Most", type := 3, offset := 0, embedded := false, tag := "", pkgPath := "", byteOffset := 0 }, { name := "Waiters", type := 27, offset := 1, embedded := false, tag := "", pkgPath := "", byteOffset := 8 }]), 2, 32, [.int .i64 0, .slice none 0 0], true, []⟩
theorem tio29 : TIOk Tryz.prog (29, ti29) := ⟨by kernel_rfl, by kernel_rfl, by kernel_rfl, fun _ => ⟨by kernel_rfl, by kernel_rfl⟩⟩
def ti30 : TI := ⟨(TypeDesc.struct #[{ name := "Backend", type := 3, offset := 0, embedded := false, tag := "", pkgPath := "", byteOffset := 0 }, { name := "Max", type := 3, offset := 1, embedded := false, tag := "", pkgPath := "", byteOffset := 8 }, { name := "Now", type := 2, offset := 2, embedded := false, tag := "", pkgPath := "", byteOffset := 16 }, { name := "Shut", type := 4, offset := 3, embedded := false, tag := "", pkgPath := "", byteOffset := 24 }, { name := "Idle", type := 24, offset := 4, embedded := false, tag := "", pkgPath := "", byteOffset := 32 }, { name := "Leases", type := 25, offset := 8, embedded := false, tag := "", pkgPath := "", byteOffset := 80 }, { name := "Dials", type := 26, offset := 9, embedded := false, tag := "", pkgPath := "", byteOffset := 104 }, { name := "Waiters", type := 29, offset := 10, embedded := false, tag := "", pkgPath := "", byteOffset := 128 }]), 12, 160, [.int .i64 0, .int .i64 0, .int .i64 0, .bool false, .int .i64 0, .int .i64 0, .int .i64 0, .slice none 0 0, .slice none 0 0, .slice none 0 0, .int .i64 0, .slice none 0 0], true, []⟩
theorem tio30 : TIOk Tryz.prog (30, ti30) := ⟨by kernel_rfl, by kernel_rfl, by kernel_rfl, fun _ => ⟨by kernel_rfl, by kernel_rfl⟩⟩
def ti31 : TI := ⟨(TypeDesc.struct #[{ name := "Backend", type := 3, offset := 0, embedded := false, tag := "", pkgPath := "", byteOffset := 0 }, { name := "Max", type := 3, offset := 1, embedded := false, tag := "", pkgPath := "", byteOffset := 8 }, { name := "Now", type := 2, offset := 2, embedded := false, tag := "", pkgPath := "", byteOffset := 16 }, { name := "Shut", type := 4, offset := 3, embedded := false, tag := "", pkgPath := "", byteOffset := 24 }, { name := "Idle", type := 24, offset := 4, embedded := false, tag := "", pkgPath := "", byteOffset := 32 }, { name := "Leases", type := 25, offset := 8, embedded := false, tag := "", pkgPath := "", byteOffset := 80 }, { name := "Dials", type := 26, offset := 9, embedded := false, tag := "", pkgPath := "", byteOffset := 104 }, { name := "Waiters", type := 29, offset := 10, embedded := false, tag := "", pkgPath := "", byteOffset := 128 }]), 12, 160, [.int .i64 0, .int .i64 0, .int .i64 0, .bool false, .int .i64 0, .int .i64 0, .int .i64 0, .slice none 0 0, .slice none 0 0, .slice none 0 0, .int .i64 0, .slice none 0 0], true, []⟩
theorem tio31 : TIOk Tryz.prog (31, ti31) := ⟨by kernel_rfl, by kernel_rfl, by kernel_rfl, fun _ => ⟨by kernel_rfl, by kernel_rfl⟩⟩
def ti32 : TI := ⟨(TypeDesc.slice 42), 1, 24, [.slice none 0 0], false, []⟩
theorem tio32 : TIOk Tryz.prog (32, ti32) := ⟨by kernel_rfl, by kernel_rfl, by kernel_rfl, nofun⟩
def ti33 : TI := ⟨(TypeDesc.func #[31] #[4] false), 1, 8, [.nilFunc], false, []⟩
theorem tio33 : TIOk Tryz.prog (33, ti33) := ⟨by kernel_rfl, by kernel_rfl, by kernel_rfl, nofun⟩
def ti34 : TI := ⟨(TypeDesc.func #[] #[4] false), 1, 8, [.nilFunc], false, []⟩
theorem tio34 : TIOk Tryz.prog (34, ti34) := ⟨by kernel_rfl, by kernel_rfl, by kernel_rfl, nofun⟩
def ti35 : TI := ⟨(TypeDesc.struct #[{ name := "Kind", type := 3, offset := 0, embedded := false, tag := "", pkgPath := "", byteOffset := 0 }, { name := "Backend", type := 3, offset := 1, embedded := false, tag := "", pkgPath := "", byteOffset := 8 }, { name := "Conn", type := 2, offset := 2, embedded := false, tag := "", pkgPath := "", byteOffset := 16 }]), 3, 24, [.int .i64 0, .int .i64 0, .int .i64 0], true, []⟩
theorem tio35 : TIOk Tryz.prog (35, ti35) := ⟨by kernel_rfl, by kernel_rfl, by kernel_rfl, fun _ => ⟨by kernel_rfl, by kernel_rfl⟩⟩
def ti36 : TI := ⟨(TypeDesc.struct #[{ name := "Kind", type := 3, offset := 0, embedded := false, tag := "", pkgPath := "", byteOffset := 0 }, { name := "Backend", type := 3, offset := 1, embedded := false, tag := "", pkgPath := "", byteOffset := 8 }, { name := "Conn", type := 2, offset := 2, embedded := false, tag := "", pkgPath := "", byteOffset := 16 }]), 3, 24, [.int .i64 0, .int .i64 0, .int .i64 0], true, []⟩
theorem tio36 : TIOk Tryz.prog (36, ti36) := ⟨by kernel_rfl, by kernel_rfl, by kernel_rfl, fun _ => ⟨by kernel_rfl, by kernel_rfl⟩⟩
def ti37 : TI := ⟨(TypeDesc.slice 59), 1, 24, [.slice none 0 0], false, []⟩
theorem tio37 : TIOk Tryz.prog (37, ti37) := ⟨by kernel_rfl, by kernel_rfl, by kernel_rfl, nofun⟩
def ti38 : TI := ⟨(TypeDesc.int IntKind.i64), 1, 8, [.int .i64 0], false, []⟩
theorem tio38 : TIOk Tryz.prog (38, ti38) := ⟨by kernel_rfl, by kernel_rfl, by kernel_rfl, nofun⟩
def ti39 : TI := ⟨(TypeDesc.tuple #[31, 36, 37, 38]), 1, 0, [.tuple { toList := [.agg { toList := [.int .i64 0, .int .i64 0, .int .i64 0, .bool false, .int .i64 0, .int .i64 0, .int .i64 0, .slice none 0 0, .slice none 0 0, .slice none 0 0, .int .i64 0, .slice none 0 0] }, .agg { toList := [.int .i64 0, .int .i64 0, .int .i64 0] }, .slice none 0 0, .int .i64 0] }], false, []⟩
theorem tio39 : TIOk Tryz.prog (39, ti39) := ⟨by kernel_rfl, by kernel_rfl, by kernel_rfl, nofun⟩
def ti40 : TI := ⟨(TypeDesc.func #[31, 42] #[31, 36, 37, 38] false), 1, 8, [.nilFunc], false, []⟩
theorem tio40 : TIOk Tryz.prog (40, ti40) := ⟨by kernel_rfl, by kernel_rfl, by kernel_rfl, nofun⟩
def ti41 : TI := ⟨(TypeDesc.struct #[{ name := "What", type := 5, offset := 0, embedded := false, tag := "", pkgPath := "", byteOffset := 0 }, { name := "Call", type := 2, offset := 1, embedded := false, tag := "", pkgPath := "", byteOffset := 8 }, { name := "Conn", type := 2, offset := 2, embedded := false, tag := "", pkgPath := "", byteOffset := 16 }, { name := "At", type := 2, offset := 3, embedded := false, tag := "", pkgPath := "", byteOffset := 24 }, { name := "Yes", type := 4, offset := 4, embedded := false, tag := "", pkgPath := "", byteOffset := 32 }]), 5, 40, [.int .u8 0, .int .i64 0, .int .i64 0, .int .i64 0, .bool false], true, []⟩
theorem tio41 : TIOk Tryz.prog (41, ti41) := ⟨by kernel_rfl, by kernel_rfl, by kernel_rfl, fun _ => ⟨by kernel_rfl, by kernel_rfl⟩⟩
def ti42 : TI := ⟨(TypeDesc.struct #[{ name := "What", type := 5, offset := 0, embedded := false, tag := "", pkgPath := "", byteOffset := 0 }, { name := "Call", type := 2, offset := 1, embedded := false, tag := "", pkgPath := "", byteOffset := 8 }, { name := "Conn", type := 2, offset := 2, embedded := false, tag := "", pkgPath := "", byteOffset := 16 }, { name := "At", type := 2, offset := 3, embedded := false, tag := "", pkgPath := "", byteOffset := 24 }, { name := "Yes", type := 4, offset := 4, embedded := false, tag := "", pkgPath := "", byteOffset := 32 }]), 5, 40, [.int .u8 0, .int .i64 0, .int .i64 0, .int .i64 0, .bool false], true, []⟩
theorem tio42 : TIOk Tryz.prog (42, ti42) := ⟨by kernel_rfl, by kernel_rfl, by kernel_rfl, fun _ => ⟨by kernel_rfl, by kernel_rfl⟩⟩
def ti43 : TI := ⟨(TypeDesc.func #[31, 31] #[4] false), 1, 8, [.nilFunc], false, []⟩
theorem tio43 : TIOk Tryz.prog (43, ti43) := ⟨by kernel_rfl, by kernel_rfl, by kernel_rfl, nofun⟩
def ti44 : TI := ⟨(TypeDesc.func #[37, 37] #[4] false), 1, 8, [.nilFunc], false, []⟩
theorem tio44 : TIOk Tryz.prog (44, ti44) := ⟨by kernel_rfl, by kernel_rfl, by kernel_rfl, nofun⟩
def ti45 : TI := ⟨(TypeDesc.func #[31, 32] #[4] false), 1, 8, [.nilFunc], false, []⟩
theorem tio45 : TIOk Tryz.prog (45, ti45) := ⟨by kernel_rfl, by kernel_rfl, by kernel_rfl, nofun⟩
def ti46 : TI := ⟨(TypeDesc.struct #[{ name := "Max", type := 3, offset := 0, embedded := false, tag := "", pkgPath := "", byteOffset := 0 }, { name := "Queue", type := 3, offset := 1, embedded := false, tag := "", pkgPath := "", byteOffset := 8 }, { name := "Idle", type := 2, offset := 2, embedded := false, tag := "", pkgPath := "", byteOffset := 16 }, { name := "Age", type := 2, offset := 3, embedded := false, tag := "", pkgPath := "", byteOffset := 24 }]), 4, 32, [.int .i64 0, .int .i64 0, .int .i64 0, .int .i64 0], true, []⟩
theorem tio46 : TIOk Tryz.prog (46, ti46) := ⟨by kernel_rfl, by kernel_rfl, by kernel_rfl, fun _ => ⟨by kernel_rfl, by kernel_rfl⟩⟩
def ti47 : TI := ⟨(TypeDesc.struct #[{ name := "Max", type := 3, offset := 0, embedded := false, tag := "", pkgPath := "", byteOffset := 0 }, { name := "Queue", type := 3, offset := 1, embedded := false, tag := "", pkgPath := "", byteOffset := 8 }, { name := "Idle", type := 2, offset := 2, embedded := false, tag := "", pkgPath := "", byteOffset := 16 }, { name := "Age", type := 2, offset := 3, embedded := false, tag := "", pkgPath := "", byteOffset := 24 }]), 4, 32, [.int .i64 0, .int .i64 0, .int .i64 0, .int .i64 0], true, []⟩
theorem tio47 : TIOk Tryz.prog (47, ti47) := ⟨by kernel_rfl, by kernel_rfl, by kernel_rfl, fun _ => ⟨by kernel_rfl, by kernel_rfl⟩⟩
def ti48 : TI := ⟨(TypeDesc.tuple #[31, 4]), 1, 0, [.tuple { toList := [.agg { toList := [.int .i64 0, .int .i64 0, .int .i64 0, .bool false, .int .i64 0, .int .i64 0, .int .i64 0, .slice none 0 0, .slice none 0 0, .slice none 0 0, .int .i64 0, .slice none 0 0] }, .bool false] }], false, []⟩
theorem tio48 : TIOk Tryz.prog (48, ti48) := ⟨by kernel_rfl, by kernel_rfl, by kernel_rfl, nofun⟩
def ti49 : TI := ⟨(TypeDesc.func #[47] #[31, 4] false), 1, 8, [.nilFunc], false, []⟩
theorem tio49 : TIOk Tryz.prog (49, ti49) := ⟨by kernel_rfl, by kernel_rfl, by kernel_rfl, nofun⟩
def ti50 : TI := ⟨(TypeDesc.func #[31] #[38] false), 1, 8, [.nilFunc], false, []⟩
theorem tio50 : TIOk Tryz.prog (50, ti50) := ⟨by kernel_rfl, by kernel_rfl, by kernel_rfl, nofun⟩
def ti51 : TI := ⟨(TypeDesc.func #[47, 32] #[4] false), 1, 8, [.nilFunc], false, []⟩
theorem tio51 : TIOk Tryz.prog (51, ti51) := ⟨by kernel_rfl, by kernel_rfl, by kernel_rfl, nofun⟩
def ti52 : TI := ⟨(TypeDesc.slice 55), 1, 24, [.slice none 0 0], false, []⟩
theorem tio52 : TIOk Tryz.prog (52, ti52) := ⟨by kernel_rfl, by kernel_rfl, by kernel_rfl, nofun⟩
def ti53 : TI := ⟨(TypeDesc.func #[52, 2] #[3] false), 1, 8, [.nilFunc], false, []⟩
theorem tio53 : TIOk Tryz.prog (53, ti53) := ⟨by kernel_rfl, by kernel_rfl, by kernel_rfl, nofun⟩
def ti54 : TI := ⟨(TypeDesc.struct #[{ name := "id", type := 2, offset := 0, embedded := false, tag := "", pkgPath := "spillway/spillwaylaw21", byteOffset := 0 }, { name := "call", type := 2, offset := 1, embedded := false, tag := "", pkgPath := "spillway/spillwaylaw21", byteOffset := 8 }, { name := "born", type := 2, offset := 2, embedded := false, tag := "", pkgPath := "spillway/spillwaylaw21", byteOffset := 16 }, { name := "since", type := 2, offset := 3, embedded := false, tag := "", pkgPath := "spillway/spillwaylaw21", byteOffset := 24 }, { name := "closed", type := 4, offset := 4, embedded := false, tag := "", pkgPath := "spillway/spillwaylaw21", byteOffset := 32 }]), 5, 40, [.int .i64 0, .int .i64 0, .int .i64 0, .int .i64 0, .bool false], true, []⟩
theorem tio54 : TIOk Tryz.prog (54, ti54) := ⟨by kernel_rfl, by kernel_rfl, by kernel_rfl, fun _ => ⟨by kernel_rfl, by kernel_rfl⟩⟩
def ti55 : TI := ⟨(TypeDesc.struct #[{ name := "id", type := 2, offset := 0, embedded := false, tag := "", pkgPath := "spillway/spillwaylaw21", byteOffset := 0 }, { name := "call", type := 2, offset := 1, embedded := false, tag := "", pkgPath := "spillway/spillwaylaw21", byteOffset := 8 }, { name := "born", type := 2, offset := 2, embedded := false, tag := "", pkgPath := "spillway/spillwaylaw21", byteOffset := 16 }, { name := "since", type := 2, offset := 3, embedded := false, tag := "", pkgPath := "spillway/spillwaylaw21", byteOffset := 24 }, { name := "closed", type := 4, offset := 4, embedded := false, tag := "", pkgPath := "spillway/spillwaylaw21", byteOffset := 32 }]), 5, 40, [.int .i64 0, .int .i64 0, .int .i64 0, .int .i64 0, .bool false], true, []⟩
theorem tio55 : TIOk Tryz.prog (55, ti55) := ⟨by kernel_rfl, by kernel_rfl, by kernel_rfl, fun _ => ⟨by kernel_rfl, by kernel_rfl⟩⟩
def ti56 : TI := ⟨(TypeDesc.func #[52, 2, 2, 2, 47] #[4] false), 1, 8, [.nilFunc], false, []⟩
theorem tio56 : TIOk Tryz.prog (56, ti56) := ⟨by kernel_rfl, by kernel_rfl, by kernel_rfl, nofun⟩
def ti57 : TI := ⟨(TypeDesc.func #[52, 59, 2, 47] #[4] false), 1, 8, [.nilFunc], false, []⟩
theorem tio57 : TIOk Tryz.prog (57, ti57) := ⟨by kernel_rfl, by kernel_rfl, by kernel_rfl, nofun⟩
def ti58 : TI := ⟨(TypeDesc.struct #[{ name := "Kind", type := 3, offset := 0, embedded := false, tag := "", pkgPath := "", byteOffset := 0 }, { name := "Backend", type := 3, offset := 1, embedded := false, tag := "", pkgPath := "", byteOffset := 8 }, { name := "Call", type := 2, offset := 2, embedded := false, tag := "", pkgPath := "", byteOffset := 16 }, { name := "Conn", type := 2, offset := 3, embedded := false, tag := "", pkgPath := "", byteOffset := 24 }]), 4, 32, [.int .i64 0, .int .i64 0, .int .i64 0, .int .i64 0], true, []⟩
theorem tio58 : TIOk Tryz.prog (58, ti58) := ⟨by kernel_rfl, by kernel_rfl, by kernel_rfl, fun _ => ⟨by kernel_rfl, by kernel_rfl⟩⟩
def ti59 : TI := ⟨(TypeDesc.struct #[{ name := "Kind", type := 3, offset := 0, embedded := false, tag := "", pkgPath := "", byteOffset := 0 }, { name := "Backend", type := 3, offset := 1, embedded := false, tag := "", pkgPath := "", byteOffset := 8 }, { name := "Call", type := 2, offset := 2, embedded := false, tag := "", pkgPath := "", byteOffset := 16 }, { name := "Conn", type := 2, offset := 3, embedded := false, tag := "", pkgPath := "", byteOffset := 24 }]), 4, 32, [.int .i64 0, .int .i64 0, .int .i64 0, .int .i64 0], true, []⟩
theorem tio59 : TIOk Tryz.prog (59, ti59) := ⟨by kernel_rfl, by kernel_rfl, by kernel_rfl, fun _ => ⟨by kernel_rfl, by kernel_rfl⟩⟩
def ti60 : TI := ⟨(TypeDesc.func #[52, 31] #[4] false), 1, 8, [.nilFunc], false, []⟩
theorem tio60 : TIOk Tryz.prog (60, ti60) := ⟨by kernel_rfl, by kernel_rfl, by kernel_rfl, nofun⟩
def ti61 : TI := ⟨(TypeDesc.slice 2), 1, 24, [.slice none 0 0], false, []⟩
theorem tio61 : TIOk Tryz.prog (61, ti61) := ⟨by kernel_rfl, by kernel_rfl, by kernel_rfl, nofun⟩
def ti62 : TI := ⟨(TypeDesc.func #[61, 2] #[61] false), 1, 8, [.nilFunc], false, []⟩
theorem tio62 : TIOk Tryz.prog (62, ti62) := ⟨by kernel_rfl, by kernel_rfl, by kernel_rfl, nofun⟩
def ti63 : TI := ⟨(TypeDesc.func #[31] #[31, 36, 37, 38] false), 1, 8, [.nilFunc], false, []⟩
theorem tio63 : TIOk Tryz.prog (63, ti63) := ⟨by kernel_rfl, by kernel_rfl, by kernel_rfl, nofun⟩
def ti64 : TI := ⟨(TypeDesc.func #[31, 2, 2, 4] #[31, 36, 37, 38] false), 1, 8, [.nilFunc], false, []⟩
theorem tio64 : TIOk Tryz.prog (64, ti64) := ⟨by kernel_rfl, by kernel_rfl, by kernel_rfl, nofun⟩
def ti65 : TI := ⟨(TypeDesc.struct #[{ name := "Call", type := 2, offset := 0, embedded := false, tag := "", pkgPath := "", byteOffset := 0 }, { name := "Gone", type := 4, offset := 1, embedded := false, tag := "", pkgPath := "", byteOffset := 8 }]), 2, 16, [.int .i64 0, .bool false], true, []⟩
theorem tio65 : TIOk Tryz.prog (65, ti65) := ⟨by kernel_rfl, by kernel_rfl, by kernel_rfl, fun _ => ⟨by kernel_rfl, by kernel_rfl⟩⟩
def ti66 : TI := ⟨(TypeDesc.struct #[{ name := "Call", type := 2, offset := 0, embedded := false, tag := "", pkgPath := "", byteOffset := 0 }, { name := "Gone", type := 4, offset := 1, embedded := false, tag := "", pkgPath := "", byteOffset := 8 }]), 2, 16, [.int .i64 0, .bool false], true, []⟩
theorem tio66 : TIOk Tryz.prog (66, ti66) := ⟨by kernel_rfl, by kernel_rfl, by kernel_rfl, fun _ => ⟨by kernel_rfl, by kernel_rfl⟩⟩
def ti67 : TI := ⟨(TypeDesc.func #[31] #[2] false), 1, 8, [.nilFunc], false, []⟩
theorem tio67 : TIOk Tryz.prog (67, ti67) := ⟨by kernel_rfl, by kernel_rfl, by kernel_rfl, nofun⟩
def ti68 : TI := ⟨(TypeDesc.func #[37] #[3] false), 1, 8, [.nilFunc], false, []⟩
theorem tio68 : TIOk Tryz.prog (68, ti68) := ⟨by kernel_rfl, by kernel_rfl, by kernel_rfl, nofun⟩
def ti69 : TI := ⟨(TypeDesc.func #[31, 2, 4] #[31, 36, 37, 38] false), 1, 8, [.nilFunc], false, []⟩
theorem tio69 : TIOk Tryz.prog (69, ti69) := ⟨by kernel_rfl, by kernel_rfl, by kernel_rfl, nofun⟩
def ti70 : TI := ⟨(TypeDesc.struct #[{ name := "Call", type := 2, offset := 0, embedded := false, tag := "", pkgPath := "", byteOffset := 0 }, { name := "Conn", type := 2, offset := 1, embedded := false, tag := "", pkgPath := "", byteOffset := 8 }, { name := "Born", type := 2, offset := 2, embedded := false, tag := "", pkgPath := "", byteOffset := 16 }]), 3, 24, [.int .i64 0, .int .i64 0, .int .i64 0], true, []⟩
theorem tio70 : TIOk Tryz.prog (70, ti70) := ⟨by kernel_rfl, by kernel_rfl, by kernel_rfl, fun _ => ⟨by kernel_rfl, by kernel_rfl⟩⟩
def ti71 : TI := ⟨(TypeDesc.struct #[{ name := "Call", type := 2, offset := 0, embedded := false, tag := "", pkgPath := "", byteOffset := 0 }, { name := "Conn", type := 2, offset := 1, embedded := false, tag := "", pkgPath := "", byteOffset := 8 }, { name := "Born", type := 2, offset := 2, embedded := false, tag := "", pkgPath := "", byteOffset := 16 }]), 3, 24, [.int .i64 0, .int .i64 0, .int .i64 0], true, []⟩
theorem tio71 : TIOk Tryz.prog (71, ti71) := ⟨by kernel_rfl, by kernel_rfl, by kernel_rfl, fun _ => ⟨by kernel_rfl, by kernel_rfl⟩⟩
def ti72 : TI := ⟨(TypeDesc.tuple #[3, 3, 3, 3, 38]), 1, 0, [.tuple { toList := [.int .i64 0, .int .i64 0, .int .i64 0, .int .i64 0, .int .i64 0] }], false, []⟩
theorem tio72 : TIOk Tryz.prog (72, ti72) := ⟨by kernel_rfl, by kernel_rfl, by kernel_rfl, nofun⟩
def ti73 : TI := ⟨(TypeDesc.func #[31] #[3, 3, 3, 3, 38] false), 1, 8, [.nilFunc], false, []⟩
theorem tio73 : TIOk Tryz.prog (73, ti73) := ⟨by kernel_rfl, by kernel_rfl, by kernel_rfl, nofun⟩
def ti74 : TI := ⟨(TypeDesc.func #[31, 2, 2] #[31, 36, 37, 38] false), 1, 8, [.nilFunc], false, []⟩
theorem tio74 : TIOk Tryz.prog (74, ti74) := ⟨by kernel_rfl, by kernel_rfl, by kernel_rfl, nofun⟩
def ti75 : TI := ⟨(TypeDesc.func #[47, 32, 4] #[4] false), 1, 8, [.nilFunc], false, []⟩
theorem tio75 : TIOk Tryz.prog (75, ti75) := ⟨by kernel_rfl, by kernel_rfl, by kernel_rfl, nofun⟩
def ti76 : TI := ⟨(TypeDesc.tuple #[31, 38]), 1, 0, [.tuple { toList := [.agg { toList := [.int .i64 0, .int .i64 0, .int .i64 0, .bool false, .int .i64 0, .int .i64 0, .int .i64 0, .slice none 0 0, .slice none 0 0, .slice none 0 0, .int .i64 0, .slice none 0 0] }, .int .i64 0] }], false, []⟩
theorem tio76 : TIOk Tryz.prog (76, ti76) := ⟨by kernel_rfl, by kernel_rfl, by kernel_rfl, nofun⟩
def ti77 : TI := ⟨(TypeDesc.func #[3, 47] #[31, 38] false), 1, 8, [.nilFunc], false, []⟩
theorem tio77 : TIOk Tryz.prog (77, ti77) := ⟨by kernel_rfl, by kernel_rfl, by kernel_rfl, nofun⟩
def ti78 : TI := ⟨(TypeDesc.tuple #[3, 38]), 1, 0, [.tuple { toList := [.int .i64 0, .int .i64 0] }], false, []⟩
theorem tio78 : TIOk Tryz.prog (78, ti78) := ⟨by kernel_rfl, by kernel_rfl, by kernel_rfl, nofun⟩
def ti79 : TI := ⟨(TypeDesc.func #[31, 2] #[3, 38] false), 1, 8, [.nilFunc], false, []⟩
theorem tio79 : TIOk Tryz.prog (79, ti79) := ⟨by kernel_rfl, by kernel_rfl, by kernel_rfl, nofun⟩
def ti80 : TI := ⟨(TypeDesc.func #[3, 47, 31] #[4] false), 1, 8, [.nilFunc], false, []⟩
theorem tio80 : TIOk Tryz.prog (80, ti80) := ⟨by kernel_rfl, by kernel_rfl, by kernel_rfl, nofun⟩
def ti81 : TI := ⟨(TypeDesc.array 13 42), 65, 520, [.int .u8 0, .int .i64 0, .int .i64 0, .int .i64 0, .bool false, .int .u8 0, .int .i64 0, .int .i64 0, .int .i64 0, .bool false, .int .u8 0, .int .i64 0, .int .i64 0, .int .i64 0, .bool false, .int .u8 0, .int .i64 0, .int .i64 0, .int .i64 0, .bool false, .int .u8 0, .int .i64 0, .int .i64 0, .int .i64 0, .bool false, .int .u8 0, .int .i64 0, .int .i64 0, .int .i64 0, .bool false, .int .u8 0, .int .i64 0, .int .i64 0, .int .i64 0, .bool false, .int .u8 0, .int .i64 0, .int .i64 0, .int .i64 0, .bool false, .int .u8 0, .int .i64 0, .int .i64 0, .int .i64 0, .bool false, .int .u8 0, .int .i64 0, .int .i64 0, .int .i64 0, .bool false, .int .u8 0, .int .i64 0, .int .i64 0, .int .i64 0, .bool false, .int .u8 0, .int .i64 0, .int .i64 0, .int .i64 0, .bool false, .int .u8 0, .int .i64 0, .int .i64 0, .int .i64 0, .bool false], false, []⟩
theorem tio81 : TIOk Tryz.prog (81, ti81) := ⟨by kernel_rfl, by kernel_rfl, by kernel_rfl, nofun⟩
def ti82 : TI := ⟨(TypeDesc.array 13 3), 13, 104, [.int .i64 0, .int .i64 0, .int .i64 0, .int .i64 0, .int .i64 0, .int .i64 0, .int .i64 0, .int .i64 0, .int .i64 0, .int .i64 0, .int .i64 0, .int .i64 0, .int .i64 0], false, []⟩
theorem tio82 : TIOk Tryz.prog (82, ti82) := ⟨by kernel_rfl, by kernel_rfl, by kernel_rfl, nofun⟩
def ti83 : TI := ⟨(TypeDesc.func #[31, 2] #[31, 36, 37, 38] false), 1, 8, [.nilFunc], false, []⟩
theorem tio83 : TIOk Tryz.prog (83, ti83) := ⟨by kernel_rfl, by kernel_rfl, by kernel_rfl, nofun⟩
def ti84 : TI := ⟨(TypeDesc.tuple #[31, 36, 38]), 1, 0, [.tuple { toList := [.agg { toList := [.int .i64 0, .int .i64 0, .int .i64 0, .bool false, .int .i64 0, .int .i64 0, .int .i64 0, .slice none 0 0, .slice none 0 0, .slice none 0 0, .int .i64 0, .slice none 0 0] }, .agg { toList := [.int .i64 0, .int .i64 0, .int .i64 0] }, .int .i64 0] }], false, []⟩
theorem tio84 : TIOk Tryz.prog (84, ti84) := ⟨by kernel_rfl, by kernel_rfl, by kernel_rfl, nofun⟩
def ti85 : TI := ⟨(TypeDesc.func #[31, 2, 2] #[31, 36, 38] false), 1, 8, [.nilFunc], false, []⟩
theorem tio85 : TIOk Tryz.prog (85, ti85) := ⟨by kernel_rfl, by kernel_rfl, by kernel_rfl, nofun⟩
def ti86 : TI := ⟨(TypeDesc.func #[31, 2] #[31, 36, 38] false), 1, 8, [.nilFunc], false, []⟩
theorem tio86 : TIOk Tryz.prog (86, ti86) := ⟨by kernel_rfl, by kernel_rfl, by kernel_rfl, nofun⟩
def ti87 : TI := ⟨(TypeDesc.func #[24, 24] #[4] false), 1, 8, [.nilFunc], false, []⟩
theorem tio87 : TIOk Tryz.prog (87, ti87) := ⟨by kernel_rfl, by kernel_rfl, by kernel_rfl, nofun⟩
def ti88 : TI := ⟨(TypeDesc.func #[29, 29] #[4] false), 1, 8, [.nilFunc], false, []⟩
theorem tio88 : TIOk Tryz.prog (88, ti88) := ⟨by kernel_rfl, by kernel_rfl, by kernel_rfl, nofun⟩
def ti89 : TI := ⟨(TypeDesc.func #[31, 2] #[3] false), 1, 8, [.nilFunc], false, []⟩
theorem tio89 : TIOk Tryz.prog (89, ti89) := ⟨by kernel_rfl, by kernel_rfl, by kernel_rfl, nofun⟩
def ti90 : TI := ⟨(TypeDesc.func #[31, 2] #[4] false), 1, 8, [.nilFunc], false, []⟩
theorem tio90 : TIOk Tryz.prog (90, ti90) := ⟨by kernel_rfl, by kernel_rfl, by kernel_rfl, nofun⟩
def ti91 : TI := ⟨(TypeDesc.struct #[{ name := "Conn", type := 2, offset := 0, embedded := false, tag := "", pkgPath := "", byteOffset := 0 }, { name := "Born", type := 2, offset := 1, embedded := false, tag := "", pkgPath := "", byteOffset := 8 }, { name := "Since", type := 2, offset := 2, embedded := false, tag := "", pkgPath := "", byteOffset := 16 }]), 3, 24, [.int .i64 0, .int .i64 0, .int .i64 0], true, []⟩
theorem tio91 : TIOk Tryz.prog (91, ti91) := ⟨by kernel_rfl, by kernel_rfl, by kernel_rfl, fun _ => ⟨by kernel_rfl, by kernel_rfl⟩⟩
def ti92 : TI := ⟨(TypeDesc.struct #[{ name := "Conn", type := 2, offset := 0, embedded := false, tag := "", pkgPath := "", byteOffset := 0 }, { name := "Born", type := 2, offset := 1, embedded := false, tag := "", pkgPath := "", byteOffset := 8 }, { name := "Since", type := 2, offset := 2, embedded := false, tag := "", pkgPath := "", byteOffset := 16 }]), 3, 24, [.int .i64 0, .int .i64 0, .int .i64 0], true, []⟩
theorem tio92 : TIOk Tryz.prog (92, ti92) := ⟨by kernel_rfl, by kernel_rfl, by kernel_rfl, fun _ => ⟨by kernel_rfl, by kernel_rfl⟩⟩
def ti93 : TI := ⟨(TypeDesc.func #[31, 102] #[31, 36, 37, 38] false), 1, 8, [.nilFunc], false, []⟩
theorem tio93 : TIOk Tryz.prog (93, ti93) := ⟨by kernel_rfl, by kernel_rfl, by kernel_rfl, nofun⟩
def ti94 : TI := ⟨(TypeDesc.pointer 96), 1, 8, [.pointer none], false, []⟩
theorem tio94 : TIOk Tryz.prog (94, ti94) := ⟨by kernel_rfl, by kernel_rfl, by kernel_rfl, nofun⟩
def ti95 : TI := ⟨(TypeDesc.struct #[{ name := "PoState", type := 31, offset := 0, embedded := true, tag := "", pkgPath := "", byteOffset := 0 }, { name := "result", type := 36, offset := 12, embedded := false, tag := "", pkgPath := "spillway/pool", byteOffset := 160 }, { name := "effects", type := 37, offset := 15, embedded := false, tag := "", pkgPath := "spillway/pool", byteOffset := 184 }]), 16, 208, [.int .i64 0, .int .i64 0, .int .i64 0, .bool false, .int .i64 0, .int .i64 0, .int .i64 0, .slice none 0 0, .slice none 0 0, .slice none 0 0, .int .i64 0, .slice none 0 0, .int .i64 0, .int .i64 0, .int .i64 0, .slice none 0 0], true, []⟩
theorem tio95 : TIOk Tryz.prog (95, ti95) := ⟨by kernel_rfl, by kernel_rfl, by kernel_rfl, fun _ => ⟨by kernel_rfl, by kernel_rfl⟩⟩
def ti96 : TI := ⟨(TypeDesc.struct #[{ name := "PoState", type := 31, offset := 0, embedded := true, tag := "", pkgPath := "", byteOffset := 0 }, { name := "result", type := 36, offset := 12, embedded := false, tag := "", pkgPath := "spillway/pool", byteOffset := 160 }, { name := "effects", type := 37, offset := 15, embedded := false, tag := "", pkgPath := "spillway/pool", byteOffset := 184 }]), 16, 208, [.int .i64 0, .int .i64 0, .int .i64 0, .bool false, .int .i64 0, .int .i64 0, .int .i64 0, .slice none 0 0, .slice none 0 0, .slice none 0 0, .int .i64 0, .slice none 0 0, .int .i64 0, .int .i64 0, .int .i64 0, .slice none 0 0], true, []⟩
theorem tio96 : TIOk Tryz.prog (96, ti96) := ⟨by kernel_rfl, by kernel_rfl, by kernel_rfl, fun _ => ⟨by kernel_rfl, by kernel_rfl⟩⟩
def ti97 : TI := ⟨(TypeDesc.tuple #[29, 27, 38]), 1, 0, [.tuple { toList := [.agg { toList := [.int .i64 0, .slice none 0 0] }, .slice none 0 0, .int .i64 0] }], false, []⟩
theorem tio97 : TIOk Tryz.prog (97, ti97) := ⟨by kernel_rfl, by kernel_rfl, by kernel_rfl, nofun⟩
def ti98 : TI := ⟨(TypeDesc.func #[29] #[29, 27, 38] false), 1, 8, [.nilFunc], false, []⟩
theorem tio98 : TIOk Tryz.prog (98, ti98) := ⟨by kernel_rfl, by kernel_rfl, by kernel_rfl, nofun⟩
def ti99 : TI := ⟨(TypeDesc.tuple #[24, 61, 38]), 1, 0, [.tuple { toList := [.agg { toList := [.int .i64 0, .int .i64 0, .int .i64 0, .slice none 0 0] }, .slice none 0 0, .int .i64 0] }], false, []⟩
theorem tio99 : TIOk Tryz.prog (99, ti99) := ⟨by kernel_rfl, by kernel_rfl, by kernel_rfl, nofun⟩
def ti100 : TI := ⟨(TypeDesc.func #[24] #[24, 61, 38] false), 1, 8, [.nilFunc], false, []⟩
theorem tio100 : TIOk Tryz.prog (100, ti100) := ⟨by kernel_rfl, by kernel_rfl, by kernel_rfl, nofun⟩
def ti101 : TI := ⟨(TypeDesc.func #[3, 27, 61] #[] false), 1, 8, [.nilFunc], false, []⟩
theorem tio101 : TIOk Tryz.prog (101, ti101) := ⟨by kernel_rfl, by kernel_rfl, by kernel_rfl, nofun⟩
def ti102 : TI := ⟨(TypeDesc.func #[94] #[38] false), 1, 8, [.nilFunc], false, []⟩
theorem tio102 : TIOk Tryz.prog (102, ti102) := ⟨by kernel_rfl, by kernel_rfl, by kernel_rfl, nofun⟩
def ti103 : TI := ⟨(TypeDesc.func #[2] #[4] false), 1, 8, [.nilFunc], false, []⟩
theorem tio103 : TIOk Tryz.prog (103, ti103) := ⟨by kernel_rfl, by kernel_rfl, by kernel_rfl, nofun⟩
def ti104 : TI := ⟨(TypeDesc.tuple #[26, 66, 4]), 1, 0, [.tuple { toList := [.slice none 0 0, .agg { toList := [.int .i64 0, .bool false] }, .bool false] }], false, []⟩
theorem tio104 : TIOk Tryz.prog (104, ti104) := ⟨by kernel_rfl, by kernel_rfl, by kernel_rfl, nofun⟩
def ti105 : TI := ⟨(TypeDesc.func #[26, 2, 106] #[26, 66, 4] false), 1, 8, [.nilFunc], false, []⟩
theorem tio105 : TIOk Tryz.prog (105, ti105) := ⟨by kernel_rfl, by kernel_rfl, by kernel_rfl, nofun⟩
def ti106 : TI := ⟨(TypeDesc.func #[66] #[2] false), 1, 8, [.nilFunc], false, []⟩
theorem tio106 : TIOk Tryz.prog (106, ti106) := ⟨by kernel_rfl, by kernel_rfl, by kernel_rfl, nofun⟩
def ti107 : TI := ⟨(TypeDesc.func #[25, 108] #[4] false), 1, 8, [.nilFunc], false, []⟩
theorem tio107 : TIOk Tryz.prog (107, ti107) := ⟨by kernel_rfl, by kernel_rfl, by kernel_rfl, nofun⟩
def ti108 : TI := ⟨(TypeDesc.func #[71] #[4] false), 1, 8, [.nilFunc], false, []⟩
theorem tio108 : TIOk Tryz.prog (108, ti108) := ⟨by kernel_rfl, by kernel_rfl, by kernel_rfl, nofun⟩
def ti109 : TI := ⟨(TypeDesc.func #[22, 110] #[4] false), 1, 8, [.nilFunc], false, []⟩
theorem tio109 : TIOk Tryz.prog (109, ti109) := ⟨by kernel_rfl, by kernel_rfl, by kernel_rfl, nofun⟩
def ti110 : TI := ⟨(TypeDesc.func #[92] #[4] false), 1, 8, [.nilFunc], false, []⟩
theorem tio110 : TIOk Tryz.prog (110, ti110) := ⟨by kernel_rfl, by kernel_rfl, by kernel_rfl, nofun⟩
def ti111 : TI := ⟨(TypeDesc.func #[3, 2] #[] false), 1, 8, [.nilFunc], false, []⟩
theorem tio111 : TIOk Tryz.prog (111, ti111) := ⟨by kernel_rfl, by kernel_rfl, by kernel_rfl, nofun⟩
def ti112 : TI := ⟨(TypeDesc.func #[2, 2, 4] #[] false), 1, 8, [.nilFunc], false, []⟩
theorem tio112 : TIOk Tryz.prog (112, ti112) := ⟨by kernel_rfl, by kernel_rfl, by kernel_rfl, nofun⟩
def ti113 : TI := ⟨(TypeDesc.func #[3, 2, 2] #[] false), 1, 8, [.nilFunc], false, []⟩
theorem tio113 : TIOk Tryz.prog (113, ti113) := ⟨by kernel_rfl, by kernel_rfl, by kernel_rfl, nofun⟩
def ti114 : TI := ⟨(TypeDesc.func #[2, 2, 2] #[] false), 1, 8, [.nilFunc], false, []⟩
theorem tio114 : TIOk Tryz.prog (114, ti114) := ⟨by kernel_rfl, by kernel_rfl, by kernel_rfl, nofun⟩
def ti115 : TI := ⟨(TypeDesc.tuple #[25, 71, 4]), 1, 0, [.tuple { toList := [.slice none 0 0, .agg { toList := [.int .i64 0, .int .i64 0, .int .i64 0] }, .bool false] }], false, []⟩
theorem tio115 : TIOk Tryz.prog (115, ti115) := ⟨by kernel_rfl, by kernel_rfl, by kernel_rfl, nofun⟩
def ti116 : TI := ⟨(TypeDesc.func #[25, 2, 117] #[25, 71, 4] false), 1, 8, [.nilFunc], false, []⟩
theorem tio116 : TIOk Tryz.prog (116, ti116) := ⟨by kernel_rfl, by kernel_rfl, by kernel_rfl, nofun⟩
def ti117 : TI := ⟨(TypeDesc.func #[71] #[2] false), 1, 8, [.nilFunc], false, []⟩
theorem tio117 : TIOk Tryz.prog (117, ti117) := ⟨by kernel_rfl, by kernel_rfl, by kernel_rfl, nofun⟩
def ti118 : TI := ⟨(TypeDesc.tuple #[24, 92, 61, 38]), 1, 0, [.tuple { toList := [.agg { toList := [.int .i64 0, .int .i64 0, .int .i64 0, .slice none 0 0] }, .agg { toList := [.int .i64 0, .int .i64 0, .int .i64 0] }, .slice none 0 0, .int .i64 0] }], false, []⟩
theorem tio118 : TIOk Tryz.prog (118, ti118) := ⟨by kernel_rfl, by kernel_rfl, by kernel_rfl, nofun⟩
def ti119 : TI := ⟨(TypeDesc.func #[24, 2] #[24, 92, 61, 38] false), 1, 8, [.nilFunc], false, []⟩
theorem tio119 : TIOk Tryz.prog (119, ti119) := ⟨by kernel_rfl, by kernel_rfl, by kernel_rfl, nofun⟩
def ti120 : TI := ⟨(TypeDesc.func #[26, 66, 106] #[26] false), 1, 8, [.nilFunc], false, []⟩
theorem tio120 : TIOk Tryz.prog (120, ti120) := ⟨by kernel_rfl, by kernel_rfl, by kernel_rfl, nofun⟩
def ti121 : TI := ⟨(TypeDesc.tuple #[29, 38]), 1, 0, [.tuple { toList := [.agg { toList := [.int .i64 0, .slice none 0 0] }, .int .i64 0] }], false, []⟩
theorem tio121 : TIOk Tryz.prog (121, ti121) := ⟨by kernel_rfl, by kernel_rfl, by kernel_rfl, nofun⟩
def ti122 : TI := ⟨(TypeDesc.func #[29, 2, 2, 2] #[29, 38] false), 1, 8, [.nilFunc], false, []⟩
theorem tio122 : TIOk Tryz.prog (122, ti122) := ⟨by kernel_rfl, by kernel_rfl, by kernel_rfl, nofun⟩
def ti123 : TI := ⟨(TypeDesc.tuple #[24, 38]), 1, 0, [.tuple { toList := [.agg { toList := [.int .i64 0, .int .i64 0, .int .i64 0, .slice none 0 0] }, .int .i64 0] }], false, []⟩
theorem tio123 : TIOk Tryz.prog (123, ti123) := ⟨by kernel_rfl, by kernel_rfl, by kernel_rfl, nofun⟩
def ti124 : TI := ⟨(TypeDesc.func #[3, 2, 2] #[24, 38] false), 1, 8, [.nilFunc], false, []⟩
theorem tio124 : TIOk Tryz.prog (124, ti124) := ⟨by kernel_rfl, by kernel_rfl, by kernel_rfl, nofun⟩
def ti125 : TI := ⟨(TypeDesc.func #[3] #[29, 38] false), 1, 8, [.nilFunc], false, []⟩
theorem tio125 : TIOk Tryz.prog (125, ti125) := ⟨by kernel_rfl, by kernel_rfl, by kernel_rfl, nofun⟩
def ti126 : TI := ⟨(TypeDesc.map 2 4), 1, 8, [.map none], false, []⟩
theorem tio126 : TIOk Tryz.prog (126, ti126) := ⟨by kernel_rfl, by kernel_rfl, by kernel_rfl, nofun⟩
def ti127 : TI := ⟨(TypeDesc.func #[24] #[38] false), 1, 8, [.nilFunc], false, []⟩
theorem tio127 : TIOk Tryz.prog (127, ti127) := ⟨by kernel_rfl, by kernel_rfl, by kernel_rfl, nofun⟩
def ti128 : TI := ⟨(TypeDesc.func #[29] #[38] false), 1, 8, [.nilFunc], false, []⟩
theorem tio128 : TIOk Tryz.prog (128, ti128) := ⟨by kernel_rfl, by kernel_rfl, by kernel_rfl, nofun⟩
def ti129 : TI := ⟨(TypeDesc.struct #[{ name := "Call", type := 2, offset := 0, embedded := false, tag := "", pkgPath := "", byteOffset := 0 }, { name := "Since", type := 2, offset := 1, embedded := false, tag := "", pkgPath := "", byteOffset := 8 }, { name := "Deadline", type := 2, offset := 2, embedded := false, tag := "", pkgPath := "", byteOffset := 16 }]), 3, 24, [.int .i64 0, .int .i64 0, .int .i64 0], true, []⟩
theorem tio129 : TIOk Tryz.prog (129, ti129) := ⟨by kernel_rfl, by kernel_rfl, by kernel_rfl, fun _ => ⟨by kernel_rfl, by kernel_rfl⟩⟩
def ti130 : TI := ⟨(TypeDesc.struct #[{ name := "Call", type := 2, offset := 0, embedded := false, tag := "", pkgPath := "", byteOffset := 0 }, { name := "Since", type := 2, offset := 1, embedded := false, tag := "", pkgPath := "", byteOffset := 8 }, { name := "Deadline", type := 2, offset := 2, embedded := false, tag := "", pkgPath := "", byteOffset := 16 }]), 3, 24, [.int .i64 0, .int .i64 0, .int .i64 0], true, []⟩
theorem tio130 : TIOk Tryz.prog (130, ti130) := ⟨by kernel_rfl, by kernel_rfl, by kernel_rfl, fun _ => ⟨by kernel_rfl, by kernel_rfl⟩⟩
def ti131 : TI := ⟨(TypeDesc.tuple #[29, 130, 38]), 1, 0, [.tuple { toList := [.agg { toList := [.int .i64 0, .slice none 0 0] }, .agg { toList := [.int .i64 0, .int .i64 0, .int .i64 0] }, .int .i64 0] }], false, []⟩
theorem tio131 : TIOk Tryz.prog (131, ti131) := ⟨by kernel_rfl, by kernel_rfl, by kernel_rfl, nofun⟩
def ti132 : TI := ⟨(TypeDesc.func #[29, 2] #[29, 130, 38] false), 1, 8, [.nilFunc], false, []⟩
theorem tio132 : TIOk Tryz.prog (132, ti132) := ⟨by kernel_rfl, by kernel_rfl, by kernel_rfl, nofun⟩
def ti133 : TI := ⟨(TypeDesc.func #[29, 2] #[29, 27, 38] false), 1, 8, [.nilFunc], false, []⟩
theorem tio133 : TIOk Tryz.prog (133, ti133) := ⟨by kernel_rfl, by kernel_rfl, by kernel_rfl, nofun⟩
def ti134 : TI := ⟨(TypeDesc.func #[24, 2] #[24, 61, 38] false), 1, 8, [.nilFunc], false, []⟩
theorem tio134 : TIOk Tryz.prog (134, ti134) := ⟨by kernel_rfl, by kernel_rfl, by kernel_rfl, nofun⟩
def ti135 : TI := ⟨(TypeDesc.func #[31, 3, 2] #[36] false), 1, 8, [.nilFunc], false, []⟩
theorem tio135 : TIOk Tryz.prog (135, ti135) := ⟨by kernel_rfl, by kernel_rfl, by kernel_rfl, nofun⟩
def ti136 : TI := ⟨(TypeDesc.func #[31, 71] #[31] false), 1, 8, [.nilFunc], false, []⟩
theorem tio136 : TIOk Tryz.prog (136, ti136) := ⟨by kernel_rfl, by kernel_rfl, by kernel_rfl, nofun⟩
def ti137 : TI := ⟨(TypeDesc.func #[31, 66] #[31] false), 1, 8, [.nilFunc], false, []⟩
theorem tio137 : TIOk Tryz.prog (137, ti137) := ⟨by kernel_rfl, by kernel_rfl, by kernel_rfl, nofun⟩
def ti138 : TI := ⟨(TypeDesc.tuple #[31, 37]), 1, 0, [.tuple { toList := [.agg { toList := [.int .i64 0, .int .i64 0, .int .i64 0, .bool false, .int .i64 0, .int .i64 0, .int .i64 0, .slice none 0 0, .slice none 0 0, .slice none 0 0, .int .i64 0, .slice none 0 0] }, .slice none 0 0] }], false, []⟩
theorem tio138 : TIOk Tryz.prog (138, ti138) := ⟨by kernel_rfl, by kernel_rfl, by kernel_rfl, nofun⟩
def ti139 : TI := ⟨(TypeDesc.func #[31] #[31, 37] false), 1, 8, [.nilFunc], false, []⟩
theorem tio139 : TIOk Tryz.prog (139, ti139) := ⟨by kernel_rfl, by kernel_rfl, by kernel_rfl, nofun⟩
def ti140 : TI := ⟨(TypeDesc.func #[31, 2, 2, 4] #[31, 37] false), 1, 8, [.nilFunc], false, []⟩
theorem tio140 : TIOk Tryz.prog (140, ti140) := ⟨by kernel_rfl, by kernel_rfl, by kernel_rfl, nofun⟩
def ti141 : TI := ⟨(TypeDesc.func #[31, 3, 2, 2] #[37] false), 1, 8, [.nilFunc], false, []⟩
theorem tio141 : TIOk Tryz.prog (141, ti141) := ⟨by kernel_rfl, by kernel_rfl, by kernel_rfl, nofun⟩
def ti142 : TI := ⟨(TypeDesc.func #[27, 27] #[4] false), 1, 8, [.nilFunc], false, []⟩
theorem tio142 : TIOk Tryz.prog (142, ti142) := ⟨by kernel_rfl, by kernel_rfl, by kernel_rfl, nofun⟩
def ti143 : TI := ⟨(TypeDesc.func #[31] #[3] false), 1, 8, [.nilFunc], false, []⟩
theorem tio143 : TIOk Tryz.prog (143, ti143) := ⟨by kernel_rfl, by kernel_rfl, by kernel_rfl, nofun⟩
def ti144 : TI := ⟨(TypeDesc.tuple #[27, 27]), 1, 0, [.tuple { toList := [.slice none 0 0, .slice none 0 0] }], false, []⟩
theorem tio144 : TIOk Tryz.prog (144, ti144) := ⟨by kernel_rfl, by kernel_rfl, by kernel_rfl, nofun⟩
def ti145 : TI := ⟨(TypeDesc.func #[27, 146] #[27, 27] false), 1, 8, [.nilFunc], false, []⟩
theorem tio145 : TIOk Tryz.prog (145, ti145) := ⟨by kernel_rfl, by kernel_rfl, by kernel_rfl, nofun⟩
def ti146 : TI := ⟨(TypeDesc.func #[130] #[4] false), 1, 8, [.nilFunc], false, []⟩
theorem tio146 : TIOk Tryz.prog (146, ti146) := ⟨by kernel_rfl, by kernel_rfl, by kernel_rfl, nofun⟩
def ti147 : TI := ⟨(TypeDesc.tuple #[22, 61]), 1, 0, [.tuple { toList := [.slice none 0 0, .slice none 0 0] }], false, []⟩
theorem tio147 : TIOk Tryz.prog (147, ti147) := ⟨by kernel_rfl, by kernel_rfl, by kernel_rfl, nofun⟩
def ti148 : TI := ⟨(TypeDesc.func #[22, 110] #[22, 61] false), 1, 8, [.nilFunc], false, []⟩
theorem tio148 : TIOk Tryz.prog (148, ti148) := ⟨by kernel_rfl, by kernel_rfl, by kernel_rfl, nofun⟩
def ti149 : TI := ⟨(TypeDesc.func #[26, 150] #[3] false), 1, 8, [.nilFunc], false, []⟩
theorem tio149 : TIOk Tryz.prog (149, ti149) := ⟨by kernel_rfl, by kernel_rfl, by kernel_rfl, nofun⟩
def ti150 : TI := ⟨(TypeDesc.func #[66] #[4] false), 1, 8, [.nilFunc], false, []⟩
theorem tio150 : TIOk Tryz.prog (150, ti150) := ⟨by kernel_rfl, by kernel_rfl, by kernel_rfl, nofun⟩
def ti151 : TI := ⟨(TypeDesc.func #[26, 3, 3] #[26] false), 1, 8, [.nilFunc], false, []⟩
theorem tio151 : TIOk Tryz.prog (151, ti151) := ⟨by kernel_rfl, by kernel_rfl, by kernel_rfl, nofun⟩
def ti152 : TI := ⟨(TypeDesc.func #[26] #[26] false), 1, 8, [.nilFunc], false, []⟩
theorem tio152 : TIOk Tryz.prog (152, ti152) := ⟨by kernel_rfl, by kernel_rfl, by kernel_rfl, nofun⟩
def ti153 : TI := ⟨(TypeDesc.func #[25, 108] #[3] false), 1, 8, [.nilFunc], false, []⟩
theorem tio153 : TIOk Tryz.prog (153, ti153) := ⟨by kernel_rfl, by kernel_rfl, by kernel_rfl, nofun⟩
def ti154 : TI := ⟨(TypeDesc.func #[22, 110] #[3] false), 1, 8, [.nilFunc], false, []⟩
theorem tio154 : TIOk Tryz.prog (154, ti154) := ⟨by kernel_rfl, by kernel_rfl, by kernel_rfl, nofun⟩
def ti155 : TI := ⟨(TypeDesc.tuple #[2, 4]), 1, 0, [.tuple { toList := [.int .i64 0, .bool false] }], false, []⟩
theorem tio155 : TIOk Tryz.prog (155, ti155) := ⟨by kernel_rfl, by kernel_rfl, by kernel_rfl, nofun⟩
def ti156 : TI := ⟨(TypeDesc.func #[] #[2, 4] false), 1, 8, [.nilFunc], false, []⟩
theorem tio156 : TIOk Tryz.prog (156, ti156) := ⟨by kernel_rfl, by kernel_rfl, by kernel_rfl, nofun⟩
def ti157 : TI := ⟨(TypeDesc.func #[24, 2, 2, 2] #[24, 61, 38] false), 1, 8, [.nilFunc], false, []⟩
theorem tio157 : TIOk Tryz.prog (157, ti157) := ⟨by kernel_rfl, by kernel_rfl, by kernel_rfl, nofun⟩
def ti158 : TI := ⟨(TypeDesc.func #[25, 71, 117] #[25] false), 1, 8, [.nilFunc], false, []⟩
theorem tio158 : TIOk Tryz.prog (158, ti158) := ⟨by kernel_rfl, by kernel_rfl, by kernel_rfl, nofun⟩
def ti159 : TI := ⟨(TypeDesc.func #[25, 3, 3] #[25] false), 1, 8, [.nilFunc], false, []⟩
theorem tio159 : TIOk Tryz.prog (159, ti159) := ⟨by kernel_rfl, by kernel_rfl, by kernel_rfl, nofun⟩
def ti160 : TI := ⟨(TypeDesc.func #[25] #[25] false), 1, 8, [.nilFunc], false, []⟩
theorem tio160 : TIOk Tryz.prog (160, ti160) := ⟨by kernel_rfl, by kernel_rfl, by kernel_rfl, nofun⟩
def ti161 : TI := ⟨(TypeDesc.func #[29, 2] #[3, 38] false), 1, 8, [.nilFunc], false, []⟩
theorem tio161 : TIOk Tryz.prog (161, ti161) := ⟨by kernel_rfl, by kernel_rfl, by kernel_rfl, nofun⟩
def ti162 : TI := ⟨(TypeDesc.func #[199] #[] false), 1, 8, [.nilFunc], false, []⟩
theorem tio162 : TIOk Tryz.prog (162, ti162) := ⟨by kernel_rfl, by kernel_rfl, by kernel_rfl, nofun⟩
def ti163 : TI := ⟨(TypeDesc.func #[199] #[] false), 1, 8, [.nilFunc], false, []⟩
theorem tio163 : TIOk Tryz.prog (163, ti163) := ⟨by kernel_rfl, by kernel_rfl, by kernel_rfl, nofun⟩
def ti164 : TI := ⟨(TypeDesc.func #[22] #[163] false), 1, 8, [.nilFunc], false, []⟩
theorem tio164 : TIOk Tryz.prog (164, ti164) := ⟨by kernel_rfl, by kernel_rfl, by kernel_rfl, nofun⟩
def ti165 : TI := ⟨(TypeDesc.tuple #[3, 4]), 1, 0, [.tuple { toList := [.int .i64 0, .bool false] }], false, []⟩
theorem tio165 : TIOk Tryz.prog (165, ti165) := ⟨by kernel_rfl, by kernel_rfl, by kernel_rfl, nofun⟩
def ti166 : TI := ⟨(TypeDesc.func #[26, 2, 168] #[3, 4] false), 1, 8, [.nilFunc], false, []⟩
theorem tio166 : TIOk Tryz.prog (166, ti166) := ⟨by kernel_rfl, by kernel_rfl, by kernel_rfl, nofun⟩
def ti167 : TI := ⟨(TypeDesc.func #[2, 2] #[3] false), 1, 8, [.nilFunc], false, []⟩
theorem tio167 : TIOk Tryz.prog (167, ti167) := ⟨by kernel_rfl, by kernel_rfl, by kernel_rfl, nofun⟩
def ti168 : TI := ⟨(TypeDesc.func #[66, 2] #[3] false), 1, 8, [.nilFunc], false, []⟩
theorem tio168 : TIOk Tryz.prog (168, ti168) := ⟨by kernel_rfl, by kernel_rfl, by kernel_rfl, nofun⟩
def ti169 : TI := ⟨(TypeDesc.func #[26, 3, 26] #[26] true), 1, 8, [.nilFunc], false, []⟩
theorem tio169 : TIOk Tryz.prog (169, ti169) := ⟨by kernel_rfl, by kernel_rfl, by kernel_rfl, nofun⟩
def ti170 : TI := ⟨(TypeDesc.func #[171, 2] #[38] false), 1, 8, [.nilFunc], false, []⟩
theorem tio170 : TIOk Tryz.prog (170, ti170) := ⟨by kernel_rfl, by kernel_rfl, by kernel_rfl, nofun⟩
def ti171 : TI := ⟨(TypeDesc.pointer 29), 1, 8, [.pointer none], false, []⟩
theorem tio171 : TIOk Tryz.prog (171, ti171) := ⟨by kernel_rfl, by kernel_rfl, by kernel_rfl, nofun⟩
def ti172 : TI := ⟨(TypeDesc.func #[193] #[4] true), 1, 8, [.nilFunc], false, []⟩
theorem tio172 : TIOk Tryz.prog (172, ti172) := ⟨by kernel_rfl, by kernel_rfl, by kernel_rfl, nofun⟩
def ti173 : TI := ⟨(TypeDesc.func #[27, 2] #[3] false), 1, 8, [.nilFunc], false, []⟩
theorem tio173 : TIOk Tryz.prog (173, ti173) := ⟨by kernel_rfl, by kernel_rfl, by kernel_rfl, nofun⟩
def ti174 : TI := ⟨(TypeDesc.func #[27] #[27] false), 1, 8, [.nilFunc], false, []⟩
theorem tio174 : TIOk Tryz.prog (174, ti174) := ⟨by kernel_rfl, by kernel_rfl, by kernel_rfl, nofun⟩
def ti175 : TI := ⟨(TypeDesc.func #[176] #[4] false), 1, 8, [.nilFunc], false, []⟩
theorem tio175 : TIOk Tryz.prog (175, ti175) := ⟨by kernel_rfl, by kernel_rfl, by kernel_rfl, nofun⟩
def ti176 : TI := ⟨(TypeDesc.pointer 24), 1, 8, [.pointer none], false, []⟩
theorem tio176 : TIOk Tryz.prog (176, ti176) := ⟨by kernel_rfl, by kernel_rfl, by kernel_rfl, nofun⟩
def ti177 : TI := ⟨(TypeDesc.func #[3] #[4] false), 1, 8, [.nilFunc], false, []⟩
theorem tio177 : TIOk Tryz.prog (177, ti177) := ⟨by kernel_rfl, by kernel_rfl, by kernel_rfl, nofun⟩
def ti178 : TI := ⟨(TypeDesc.func #[22, 2] #[3] false), 1, 8, [.nilFunc], false, []⟩
theorem tio178 : TIOk Tryz.prog (178, ti178) := ⟨by kernel_rfl, by kernel_rfl, by kernel_rfl, nofun⟩
def ti179 : TI := ⟨(TypeDesc.func #[27, 146] #[4] false), 1, 8, [.nilFunc], false, []⟩
theorem tio179 : TIOk Tryz.prog (179, ti179) := ⟨by kernel_rfl, by kernel_rfl, by kernel_rfl, nofun⟩
def ti180 : TI := ⟨(TypeDesc.func #[29, 3] #[29, 130, 38] false), 1, 8, [.nilFunc], false, []⟩
theorem tio180 : TIOk Tryz.prog (180, ti180) := ⟨by kernel_rfl, by kernel_rfl, by kernel_rfl, nofun⟩
def ti181 : TI := ⟨(TypeDesc.func #[176, 2] #[38] false), 1, 8, [.nilFunc], false, []⟩
theorem tio181 : TIOk Tryz.prog (181, ti181) := ⟨by kernel_rfl, by kernel_rfl, by kernel_rfl, nofun⟩
def ti182 : TI := ⟨(TypeDesc.tuple #[31, 2, 4]), 1, 0, [.tuple { toList := [.agg { toList := [.int .i64 0, .int .i64 0, .int .i64 0, .bool false, .int .i64 0, .int .i64 0, .int .i64 0, .slice none 0 0, .slice none 0 0, .slice none 0 0, .int .i64 0, .slice none 0 0] }, .int .i64 0, .bool false] }], false, []⟩
theorem tio182 : TIOk Tryz.prog (182, ti182) := ⟨by kernel_rfl, by kernel_rfl, by kernel_rfl, nofun⟩
def ti183 : TI := ⟨(TypeDesc.func #[31] #[31, 2, 4] false), 1, 8, [.nilFunc], false, []⟩
theorem tio183 : TIOk Tryz.prog (183, ti183) := ⟨by kernel_rfl, by kernel_rfl, by kernel_rfl, nofun⟩
def ti184 : TI := ⟨(TypeDesc.func #[3, 2, 2] #[4] false), 1, 8, [.nilFunc], false, []⟩
theorem tio184 : TIOk Tryz.prog (184, ti184) := ⟨by kernel_rfl, by kernel_rfl, by kernel_rfl, nofun⟩
def ti185 : TI := ⟨(TypeDesc.func #[2, 2, 2] #[4] false), 1, 8, [.nilFunc], false, []⟩
theorem tio185 : TIOk Tryz.prog (185, ti185) := ⟨by kernel_rfl, by kernel_rfl, by kernel_rfl, nofun⟩
def ti186 : TI := ⟨(TypeDesc.func #[22] #[22] false), 1, 8, [.nilFunc], false, []⟩
theorem tio186 : TIOk Tryz.prog (186, ti186) := ⟨by kernel_rfl, by kernel_rfl, by kernel_rfl, nofun⟩
def ti187 : TI := ⟨(TypeDesc.func #[25, 2, 188] #[3, 4] false), 1, 8, [.nilFunc], false, []⟩
theorem tio187 : TIOk Tryz.prog (187, ti187) := ⟨by kernel_rfl, by kernel_rfl, by kernel_rfl, nofun⟩
def ti188 : TI := ⟨(TypeDesc.func #[71, 2] #[3] false), 1, 8, [.nilFunc], false, []⟩
theorem tio188 : TIOk Tryz.prog (188, ti188) := ⟨by kernel_rfl, by kernel_rfl, by kernel_rfl, nofun⟩
def ti189 : TI := ⟨(TypeDesc.func #[25, 3, 25] #[25] true), 1, 8, [.nilFunc], false, []⟩
theorem tio189 : TIOk Tryz.prog (189, ti189) := ⟨by kernel_rfl, by kernel_rfl, by kernel_rfl, nofun⟩
def ti190 : TI := ⟨(TypeDesc.int IntKind.u64), 1, 8, [.int .u64 0], false, []⟩
theorem tio190 : TIOk Tryz.prog (190, ti190) := ⟨by kernel_rfl, by kernel_rfl, by kernel_rfl, nofun⟩
def ti191 : TI := ⟨(TypeDesc.func #[26, 26] #[4] false), 1, 8, [.nilFunc], false, []⟩
theorem tio191 : TIOk Tryz.prog (191, ti191) := ⟨by kernel_rfl, by kernel_rfl, by kernel_rfl, nofun⟩
def ti192 : TI := ⟨(TypeDesc.func #[26, 3] #[] false), 1, 8, [.nilFunc], false, []⟩
theorem tio192 : TIOk Tryz.prog (192, ti192) := ⟨by kernel_rfl, by kernel_rfl, by kernel_rfl, nofun⟩
def ti193 : TI := ⟨(TypeDesc.slice 4), 1, 24, [.slice none 0 0], false, []⟩
theorem tio193 : TIOk Tryz.prog (193, ti193) := ⟨by kernel_rfl, by kernel_rfl, by kernel_rfl, nofun⟩
def ti194 : TI := ⟨(TypeDesc.func #[193, 4] #[4] false), 1, 8, [.nilFunc], false, []⟩
theorem tio194 : TIOk Tryz.prog (194, ti194) := ⟨by kernel_rfl, by kernel_rfl, by kernel_rfl, nofun⟩
def ti195 : TI := ⟨(TypeDesc.func #[27, 146] #[3] false), 1, 8, [.nilFunc], false, []⟩
theorem tio195 : TIOk Tryz.prog (195, ti195) := ⟨by kernel_rfl, by kernel_rfl, by kernel_rfl, nofun⟩
def ti196 : TI := ⟨(TypeDesc.func #[27, 3, 3] #[27] false), 1, 8, [.nilFunc], false, []⟩
theorem tio196 : TIOk Tryz.prog (196, ti196) := ⟨by kernel_rfl, by kernel_rfl, by kernel_rfl, nofun⟩
def ti197 : TI := ⟨(TypeDesc.func #[25, 25] #[4] false), 1, 8, [.nilFunc], false, []⟩
theorem tio197 : TIOk Tryz.prog (197, ti197) := ⟨by kernel_rfl, by kernel_rfl, by kernel_rfl, nofun⟩
def ti198 : TI := ⟨(TypeDesc.func #[25, 3] #[] false), 1, 8, [.nilFunc], false, []⟩
theorem tio198 : TIOk Tryz.prog (198, ti198) := ⟨by kernel_rfl, by kernel_rfl, by kernel_rfl, nofun⟩
def ti199 : TI := ⟨(TypeDesc.func #[3, 92] #[4] false), 1, 8, [.nilFunc], false, []⟩
theorem tio199 : TIOk Tryz.prog (199, ti199) := ⟨by kernel_rfl, by kernel_rfl, by kernel_rfl, nofun⟩
def ti200 : TI := ⟨(TypeDesc.func #[193, 4] #[3] false), 1, 8, [.nilFunc], false, []⟩
theorem tio200 : TIOk Tryz.prog (200, ti200) := ⟨by kernel_rfl, by kernel_rfl, by kernel_rfl, nofun⟩
def ti201 : TI := ⟨(TypeDesc.func #[26] #[] false), 1, 8, [.nilFunc], false, []⟩
theorem tio201 : TIOk Tryz.prog (201, ti201) := ⟨by kernel_rfl, by kernel_rfl, by kernel_rfl, nofun⟩
def ti202 : TI := ⟨(TypeDesc.func #[25] #[] false), 1, 8, [.nilFunc], false, []⟩
theorem tio202 : TIOk Tryz.prog (202, ti202) := ⟨by kernel_rfl, by kernel_rfl, by kernel_rfl, nofun⟩
def ti203 : TI := ⟨(TypeDesc.func #[] #[9] false), 1, 8, [.nilFunc], false, []⟩
theorem tio203 : TIOk Tryz.prog (203, ti203) := ⟨by kernel_rfl, by kernel_rfl, by kernel_rfl, nofun⟩
def ti204 : TI := ⟨(TypeDesc.struct #[{ name := "_interface", type := 17, offset := 0, embedded := false, tag := "", pkgPath := "runtime", byteOffset := 0 }, { name := "concrete", type := 17, offset := 1, embedded := false, tag := "", pkgPath := "runtime", byteOffset := 8 }, { name := "asserted", type := 17, offset := 2, embedded := false, tag := "", pkgPath := "runtime", byteOffset := 16 }, { name := "missingMethod", type := 9, offset := 3, embedded := false, tag := "", pkgPath := "runtime", byteOffset := 24 }]), 4, 40, [.pointer none, .pointer none, .pointer none, .string { data := #[] }], false, []⟩
theorem tio204 : TIOk Tryz.prog (204, ti204) := ⟨by kernel_rfl, by kernel_rfl, by kernel_rfl, nofun⟩
def ti205 : TI := ⟨(TypeDesc.struct #[{ name := "_interface", type := 17, offset := 0, embedded := false, tag := "", pkgPath := "runtime", byteOffset := 0 }, { name := "concrete", type := 17, offset := 1, embedded := false, tag := "", pkgPath := "runtime", byteOffset := 8 }, { name := "asserted", type := 17, offset := 2, embedded := false, tag := "", pkgPath := "runtime", byteOffset := 16 }, { name := "missingMethod", type := 9, offset := 3, embedded := false, tag := "", pkgPath := "runtime", byteOffset := 24 }]), 4, 40, [.pointer none, .pointer none, .pointer none, .string { data := #[] }], false, []⟩
theorem tio205 : TIOk Tryz.prog (205, ti205) := ⟨by kernel_rfl, by kernel_rfl, by kernel_rfl, nofun⟩
def ti206 : TI := ⟨(TypeDesc.array 0 16), 0, 0, [], false, []⟩
theorem tio206 : TIOk Tryz.prog (206, ti206) := ⟨by kernel_rfl, by kernel_rfl, by kernel_rfl, nofun⟩
def ti207 : TI := ⟨(TypeDesc.struct #[{ name := "_", type := 206, offset := 0, embedded := false, tag := "", pkgPath := "runtime", byteOffset := 0 }]), 0, 0, [], false, []⟩
theorem tio207 : TIOk Tryz.prog (207, ti207) := ⟨by kernel_rfl, by kernel_rfl, by kernel_rfl, nofun⟩
def ti208 : TI := ⟨(TypeDesc.struct #[{ name := "_", type := 206, offset := 0, embedded := false, tag := "", pkgPath := "runtime", byteOffset := 0 }]), 0, 0, [], false, []⟩
theorem tio208 : TIOk Tryz.prog (208, ti208) := ⟨by kernel_rfl, by kernel_rfl, by kernel_rfl, nofun⟩
def ti209 : TI := ⟨(TypeDesc.func #[] #[3] false), 1, 8, [.nilFunc], false, []⟩
theorem tio209 : TIOk Tryz.prog (209, ti209) := ⟨by kernel_rfl, by kernel_rfl, by kernel_rfl, nofun⟩
def ti210 : TI := ⟨(TypeDesc.int IntKind.u32), 1, 4, [.int .u32 0], false, []⟩
theorem tio210 : TIOk Tryz.prog (210, ti210) := ⟨by kernel_rfl, by kernel_rfl, by kernel_rfl, nofun⟩
def ti211 : TI := ⟨(TypeDesc.int IntKind.u8), 1, 1, [.int .u8 0], false, []⟩
theorem tio211 : TIOk Tryz.prog (211, ti211) := ⟨by kernel_rfl, by kernel_rfl, by kernel_rfl, nofun⟩
def ti212 : TI := ⟨(TypeDesc.int IntKind.u8), 1, 1, [.int .u8 0], false, []⟩
theorem tio212 : TIOk Tryz.prog (212, ti212) := ⟨by kernel_rfl, by kernel_rfl, by kernel_rfl, nofun⟩
def ti213 : TI := ⟨(TypeDesc.func #[219, 219] #[4] false), 1, 8, [.nilFunc], false, []⟩
theorem tio213 : TIOk Tryz.prog (213, ti213) := ⟨by kernel_rfl, by kernel_rfl, by kernel_rfl, nofun⟩
def ti214 : TI := ⟨(TypeDesc.pointer 5), 1, 8, [.pointer none], false, []⟩
theorem tio214 : TIOk Tryz.prog (214, ti214) := ⟨by kernel_rfl, by kernel_rfl, by kernel_rfl, nofun⟩
def ti215 : TI := ⟨(TypeDesc.int IntKind.i32), 1, 4, [.int .i32 0], false, []⟩
theorem tio215 : TIOk Tryz.prog (215, ti215) := ⟨by kernel_rfl, by kernel_rfl, by kernel_rfl, nofun⟩
def ti216 : TI := ⟨(TypeDesc.int IntKind.i32), 1, 4, [.int .i32 0], false, []⟩
theorem tio216 : TIOk Tryz.prog (216, ti216) := ⟨by kernel_rfl, by kernel_rfl, by kernel_rfl, nofun⟩
def ti217 : TI := ⟨(TypeDesc.struct #[{ name := "Size_", type := 12, offset := 0, embedded := false, tag := "", pkgPath := "", byteOffset := 0 }, { name := "PtrBytes", type := 12, offset := 1, embedded := false, tag := "", pkgPath := "", byteOffset := 8 }, { name := "Hash", type := 210, offset := 2, embedded := false, tag := "", pkgPath := "", byteOffset := 16 }, { name := "TFlag", type := 211, offset := 3, embedded := false, tag := "", pkgPath := "", byteOffset := 20 }, { name := "Align_", type := 5, offset := 4, embedded := false, tag := "", pkgPath := "", byteOffset := 21 }, { name := "FieldAlign_", type := 5, offset := 5, embedded := false, tag := "", pkgPath := "", byteOffset := 22 }, { name := "Kind_", type := 212, offset := 6, embedded := false, tag := "", pkgPath := "", byteOffset := 23 }, { name := "Equal", type := 213, offset := 7, embedded := false, tag := "", pkgPath := "", byteOffset := 24 }, { name := "GCData", type := 214, offset := 8, embedded := false, tag := "", pkgPath := "", byteOffset := 32 }, { name := "Str", type := 215, offset := 9, embedded := false, tag := "", pkgPath := "", byteOffset := 40 }, { name := "PtrToThis", type := 216, offset := 10, embedded := false, tag := "", pkgPath := "", byteOffset := 44 }]), 11, 48, [.int .u64 0, .int .u64 0, .int .u32 0, .int .u8 0, .int .u8 0, .int .u8 0, .int .u8 0, .nilFunc, .pointer none, .int .i32 0, .int .i32 0], false, []⟩
theorem tio217 : TIOk Tryz.prog (217, ti217) := ⟨by kernel_rfl, by kernel_rfl, by kernel_rfl, nofun⟩
def ti218 : TI := ⟨(TypeDesc.struct #[{ name := "Size_", type := 12, offset := 0, embedded := false, tag := "", pkgPath := "", byteOffset := 0 }, { name := "PtrBytes", type := 12, offset := 1, embedded := false, tag := "", pkgPath := "", byteOffset := 8 }, { name := "Hash", type := 210, offset := 2, embedded := false, tag := "", pkgPath := "", byteOffset := 16 }, { name := "TFlag", type := 211, offset := 3, embedded := false, tag := "", pkgPath := "", byteOffset := 20 }, { name := "Align_", type := 5, offset := 4, embedded := false, tag := "", pkgPath := "", byteOffset := 21 }, { name := "FieldAlign_", type := 5, offset := 5, embedded := false, tag := "", pkgPath := "", byteOffset := 22 }, { name := "Kind_", type := 212, offset := 6, embedded := false, tag := "", pkgPath := "", byteOffset := 23 }, { name := "Equal", type := 213, offset := 7, embedded := false, tag := "", pkgPath := "", byteOffset := 24 }, { name := "GCData", type := 214, offset := 8, embedded := false, tag := "", pkgPath := "", byteOffset := 32 }, { name := "Str", type := 215, offset := 9, embedded := false, tag := "", pkgPath := "", byteOffset := 40 }, { name := "PtrToThis", type := 216, offset := 10, embedded := false, tag := "", pkgPath := "", byteOffset := 44 }]), 11, 48, [.int .u64 0, .int .u64 0, .int .u32 0, .int .u8 0, .int .u8 0, .int .u8 0, .int .u8 0, .nilFunc, .pointer none, .int .i32 0, .int .i32 0], false, []⟩
theorem tio218 : TIOk Tryz.prog (218, ti218) := ⟨by kernel_rfl, by kernel_rfl, by kernel_rfl, nofun⟩
def ti219 : TI := ⟨TypeDesc.unsafePointer, 1, 8, [.pointer none], false, []⟩
theorem tio219 : TIOk Tryz.prog (219, ti219) := ⟨by kernel_rfl, by kernel_rfl, by kernel_rfl, nofun⟩
def tb : Tab := [(0, ti0), (1, ti1), (2, ti2), (3, ti3), (4, ti4), (5, ti5), (6, ti6), (7, ti7), (8, ti8), (9, ti9), (10, ti10), (11, ti11), (12, ti12), (13, ti13), (14, ti14), (15, ti15), (16, ti16), (17, ti17), (18, ti18), (19, ti19), (20, ti20), (21, ti21), (22, ti22), (23, ti23), (24, ti24), (25, ti25), (26, ti26), (27, ti27), (28, ti28), (29, ti29), (30, ti30), (31, ti31), (32, ti32), (33, ti33), (34, ti34), (35, ti35), (36, ti36), (37, ti37), (38, ti38), (39, ti39), (40, ti40), (41, ti41), (42, ti42), (43, ti43), (44, ti44), (45, ti45), (46, ti46), (47, ti47), (48, ti48), (49, ti49), (50, ti50), (51, ti51), (52, ti52), (53, ti53), (54, ti54), (55, ti55), (56, ti56), (57, ti57), (58, ti58), (59, ti59), (60, ti60), (61, ti61), (62, ti62), (63, ti63), (64, ti64), (65, ti65), (66, ti66), (67, ti67), (68, ti68), (69, ti69), (70, ti70), (71, ti71), (72, ti72), (73, ti73), (74, ti74), (75, ti75), (76, ti76), (77, ti77), (78, ti78), (79, ti79), (80, ti80), (81, ti81), (82, ti82), (83, ti83), (84, ti84), (85, ti85), (86, ti86), (87, ti87), (88, ti88), (89, ti89), (90, ti90), (91, ti91), (92, ti92), (93, ti93), (94, ti94), (95, ti95), (96, ti96), (97, ti97), (98, ti98), (99, ti99), (100, ti100), (101, ti101), (102, ti102), (103, ti103), (104, ti104), (105, ti105), (106, ti106), (107, ti107), (108, ti108), (109, ti109), (110, ti110), (111, ti111), (112, ti112), (113, ti113), (114, ti114), (115, ti115), (116, ti116), (117, ti117), (118, ti118), (119, ti119), (120, ti120), (121, ti121), (122, ti122), (123, ti123), (124, ti124), (125, ti125), (126, ti126), (127, ti127), (128, ti128), (129, ti129), (130, ti130), (131, ti131), (132, ti132), (133, ti133), (134, ti134), (135, ti135), (136, ti136), (137, ti137), (138, ti138), (139, ti139), (140, ti140), (141, ti141), (142, ti142), (143, ti143), (144, ti144), (145, ti145), (146, ti146), (147, ti147), (148, ti148), (149, ti149), (150, ti150), (151, ti151), (152, ti152), (153, ti153), (154, ti154), (155, ti155), (156, ti156), (157, ti157), (158, ti158), (159, ti159), (160, ti160), (161, ti161), (162, ti162), (163, ti163), (164, ti164), (165, ti165), (166, ti166), (167, ti167), (168, ti168), (169, ti169), (170, ti170), (171, ti171), (172, ti172), (173, ti173), (174, ti174), (175, ti175), (176, ti176), (177, ti177), (178, ti178), (179, ti179), (180, ti180), (181, ti181), (182, ti182), (183, ti183), (184, ti184), (185, ti185), (186, ti186), (187, ti187), (188, ti188), (189, ti189), (190, ti190), (191, ti191), (192, ti192), (193, ti193), (194, ti194), (195, ti195), (196, ti196), (197, ti197), (198, ti198), (199, ti199), (200, ti200), (201, ti201), (202, ti202), (203, ti203), (204, ti204), (205, ti205), (206, ti206), (207, ti207), (208, ti208), (209, ti209), (210, ti210), (211, ti211), (212, ti212), (213, ti213), (214, ti214), (215, ti215), (216, ti216), (217, ti217), (218, ti218), (219, ti219)]
theorem tbOk : TabOk Tryz.prog tb := ⟨tio0, tio1, tio2, tio3, tio4, tio5, tio6, tio7, tio8, tio9, tio10, tio11, tio12, tio13, tio14, tio15, tio16, tio17, tio18, tio19, tio20, tio21, tio22, tio23, tio24, tio25, tio26, tio27, tio28, tio29, tio30, tio31, tio32, tio33, tio34, tio35, tio36, tio37, tio38, tio39, tio40, tio41, tio42, tio43, tio44, tio45, tio46, tio47, tio48, tio49, tio50, tio51, tio52, tio53, tio54, tio55, tio56, tio57, tio58, tio59, tio60, tio61, tio62, tio63, tio64, tio65, tio66, tio67, tio68, tio69, tio70, tio71, tio72, tio73, tio74, tio75, tio76, tio77, tio78, tio79, tio80, tio81, tio82, tio83, tio84, tio85, tio86, tio87, tio88, tio89, tio90, tio91, tio92, tio93, tio94, tio95, tio96, tio97, tio98, tio99, tio100, tio101, tio102, tio103, tio104, tio105, tio106, tio107, tio108, tio109, tio110, tio111, tio112, tio113, tio114, tio115, tio116, tio117, tio118, tio119, tio120, tio121, tio122, tio123, tio124, tio125, tio126, tio127, tio128, tio129, tio130, tio131, tio132, tio133, tio134, tio135, tio136, tio137, tio138, tio139, tio140, tio141, tio142, tio143, tio144, tio145, tio146, tio147, tio148, tio149, tio150, tio151, tio152, tio153, tio154, tio155, tio156, tio157, tio158, tio159, tio160, tio161, tio162, tio163, tio164, tio165, tio166, tio167, tio168, tio169, tio170, tio171, tio172, tio173, tio174, tio175, tio176, tio177, tio178, tio179, tio180, tio181, tio182, tio183, tio184, tio185, tio186, tio187, tio188, tio189, tio190, tio191, tio192, tio193, tio194, tio195, tio196, tio197, tio198, tio199, tio200, tio201, tio202, tio203, tio204, tio205, tio206, tio207, tio208, tio209, tio210, tio211, tio212, tio213, tio214, tio215, tio216, tio217, tio218, tio219, trivial⟩
theorem mixed : Tryz.prog.follows .mixedOrders = true := by kernel_rfl
theorem pl3 : Plain Tryz.prog 3 := fun _ _ => by kernel_rfl
theorem pl4 : Plain Tryz.prog 4 := fun _ _ => by kernel_rfl
theorem pl5 : Plain Tryz.prog 5 := fun _ _ => by kernel_rfl
theorem pl6 : Plain Tryz.prog 6 := fun _ _ => by kernel_rfl
theorem pl7 : Plain Tryz.prog 7 := fun _ _ => by kernel_rfl
theorem pl8 : Plain Tryz.prog 8 := fun _ _ => by kernel_rfl
theorem pl9 : Plain Tryz.prog 9 := fun _ _ => by kernel_rfl
theorem pl10 : Plain Tryz.prog 10 := fun _ _ => by kernel_rfl
theorem pl11 : Plain Tryz.prog 11 := fun _ _ => by kernel_rfl
theorem pl12 : Plain Tryz.prog 12 := fun _ _ => by kernel_rfl
theorem pl13 : Plain Tryz.prog 13 := fun _ _ => by kernel_rfl
theorem pl14 : Plain Tryz.prog 14 := fun _ _ => by kernel_rfl
theorem pl15 : Plain Tryz.prog 15 := fun _ _ => by kernel_rfl
theorem pl16 : Plain Tryz.prog 16 := fun _ _ => by kernel_rfl
theorem pl17 : Plain Tryz.prog 17 := fun _ _ => by kernel_rfl
theorem pl18 : Plain Tryz.prog 18 := fun _ _ => by kernel_rfl
theorem pl19 : Plain Tryz.prog 19 := fun _ _ => by kernel_rfl
theorem pl20 : Plain Tryz.prog 20 := fun _ _ => by kernel_rfl
theorem pl21 : Plain Tryz.prog 21 := fun _ _ => by kernel_rfl
theorem pl22 : Plain Tryz.prog 22 := fun _ _ => by kernel_rfl
theorem pl23 : Plain Tryz.prog 23 := fun _ _ => by kernel_rfl
theorem pl24 : Plain Tryz.prog 24 := fun _ _ => by kernel_rfl
theorem pl25 : Plain Tryz.prog 25 := fun _ _ => by kernel_rfl
theorem pl26 : Plain Tryz.prog 26 := fun _ _ => by kernel_rfl
theorem pl27 : Plain Tryz.prog 27 := fun _ _ => by kernel_rfl
theorem pl28 : Plain Tryz.prog 28 := fun _ _ => by kernel_rfl
theorem pl29 : Plain Tryz.prog 29 := fun _ _ => by kernel_rfl
theorem pl30 : Plain Tryz.prog 30 := fun _ _ => by kernel_rfl
theorem pl31 : Plain Tryz.prog 31 := fun _ _ => by kernel_rfl
theorem pl32 : Plain Tryz.prog 32 := fun _ _ => by kernel_rfl
theorem pl33 : Plain Tryz.prog 33 := fun _ _ => by kernel_rfl
theorem pl34 : Plain Tryz.prog 34 := fun _ _ => by kernel_rfl
theorem pl35 : Plain Tryz.prog 35 := fun _ _ => by kernel_rfl
theorem pl36 : Plain Tryz.prog 36 := fun _ _ => by kernel_rfl
theorem pl37 : Plain Tryz.prog 37 := fun _ _ => by kernel_rfl
theorem pl38 : Plain Tryz.prog 38 := fun _ _ => by kernel_rfl
theorem pl39 : Plain Tryz.prog 39 := fun _ _ => by kernel_rfl
theorem pl40 : Plain Tryz.prog 40 := fun _ _ => by kernel_rfl
theorem pl41 : Plain Tryz.prog 41 := fun _ _ => by kernel_rfl
theorem pl42 : Plain Tryz.prog 42 := fun _ _ => by kernel_rfl
theorem pl43 : Plain Tryz.prog 43 := fun _ _ => by kernel_rfl
theorem pl44 : Plain Tryz.prog 44 := fun _ _ => by kernel_rfl
theorem pl45 : Plain Tryz.prog 45 := fun _ _ => by kernel_rfl
theorem pl46 : Plain Tryz.prog 46 := fun _ _ => by kernel_rfl
theorem pl47 : Plain Tryz.prog 47 := fun _ _ => by kernel_rfl
theorem pl48 : Plain Tryz.prog 48 := fun _ _ => by kernel_rfl
theorem pl49 : Plain Tryz.prog 49 := fun _ _ => by kernel_rfl
theorem pl50 : Plain Tryz.prog 50 := fun _ _ => by kernel_rfl
theorem pl51 : Plain Tryz.prog 51 := fun _ _ => by kernel_rfl
theorem pl52 : Plain Tryz.prog 52 := fun _ _ => by kernel_rfl
theorem pl53 : Plain Tryz.prog 53 := fun _ _ => by kernel_rfl
theorem pl54 : Plain Tryz.prog 54 := fun _ _ => by kernel_rfl
theorem pl55 : Plain Tryz.prog 55 := fun _ _ => by kernel_rfl
theorem pl56 : Plain Tryz.prog 56 := fun _ _ => by kernel_rfl
theorem pl57 : Plain Tryz.prog 57 := fun _ _ => by kernel_rfl
theorem pl58 : Plain Tryz.prog 58 := fun _ _ => by kernel_rfl
theorem pl59 : Plain Tryz.prog 59 := fun _ _ => by kernel_rfl
theorem pl60 : Plain Tryz.prog 60 := fun _ _ => by kernel_rfl
theorem pl61 : Plain Tryz.prog 61 := fun _ _ => by kernel_rfl
theorem pl62 : Plain Tryz.prog 62 := fun _ _ => by kernel_rfl
theorem pl63 : Plain Tryz.prog 63 := fun _ _ => by kernel_rfl
theorem pl64 : Plain Tryz.prog 64 := fun _ _ => by kernel_rfl
theorem pl65 : Plain Tryz.prog 65 := fun _ _ => by kernel_rfl
theorem pl66 : Plain Tryz.prog 66 := fun _ _ => by kernel_rfl
theorem pl67 : Plain Tryz.prog 67 := fun _ _ => by kernel_rfl
theorem pl68 : Plain Tryz.prog 68 := fun _ _ => by kernel_rfl
theorem pl69 : Plain Tryz.prog 69 := fun _ _ => by kernel_rfl
theorem pl70 : Plain Tryz.prog 70 := fun _ _ => by kernel_rfl
theorem pl71 : Plain Tryz.prog 71 := fun _ _ => by kernel_rfl
theorem pl72 : Plain Tryz.prog 72 := fun _ _ => by kernel_rfl
theorem pl73 : Plain Tryz.prog 73 := fun _ _ => by kernel_rfl
theorem pl74 : Plain Tryz.prog 74 := fun _ _ => by kernel_rfl
theorem pl75 : Plain Tryz.prog 75 := fun _ _ => by kernel_rfl
theorem pl76 : Plain Tryz.prog 76 := fun _ _ => by kernel_rfl
theorem pl77 : Plain Tryz.prog 77 := fun _ _ => by kernel_rfl
theorem pl78 : Plain Tryz.prog 78 := fun _ _ => by kernel_rfl
theorem pl79 : Plain Tryz.prog 79 := fun _ _ => by kernel_rfl
theorem pl80 : Plain Tryz.prog 80 := fun _ _ => by kernel_rfl
theorem pl81 : Plain Tryz.prog 81 := fun _ _ => by kernel_rfl
theorem pl82 : Plain Tryz.prog 82 := fun _ _ => by kernel_rfl
theorem pl83 : Plain Tryz.prog 83 := fun _ _ => by kernel_rfl
theorem pl84 : Plain Tryz.prog 84 := fun _ _ => by kernel_rfl
theorem pl85 : Plain Tryz.prog 85 := fun _ _ => by kernel_rfl
theorem pl86 : Plain Tryz.prog 86 := fun _ _ => by kernel_rfl
theorem pl87 : Plain Tryz.prog 87 := fun _ _ => by kernel_rfl
theorem pl88 : Plain Tryz.prog 88 := fun _ _ => by kernel_rfl
theorem pl89 : Plain Tryz.prog 89 := fun _ _ => by kernel_rfl
theorem pl90 : Plain Tryz.prog 90 := fun _ _ => by kernel_rfl
theorem pl91 : Plain Tryz.prog 91 := fun _ _ => by kernel_rfl
theorem pl92 : Plain Tryz.prog 92 := fun _ _ => by kernel_rfl
theorem pl93 : Plain Tryz.prog 93 := fun _ _ => by kernel_rfl
theorem pl94 : Plain Tryz.prog 94 := fun _ _ => by kernel_rfl
theorem pl95 : Plain Tryz.prog 95 := fun _ _ => by kernel_rfl
theorem pl96 : Plain Tryz.prog 96 := fun _ _ => by kernel_rfl
theorem pl97 : Plain Tryz.prog 97 := fun _ _ => by kernel_rfl
theorem pl98 : Plain Tryz.prog 98 := fun _ _ => by kernel_rfl
theorem pl99 : Plain Tryz.prog 99 := fun _ _ => by kernel_rfl
theorem pl100 : Plain Tryz.prog 100 := fun _ _ => by kernel_rfl
theorem pl101 : Plain Tryz.prog 101 := fun _ _ => by kernel_rfl
theorem pl102 : Plain Tryz.prog 102 := fun _ _ => by kernel_rfl
theorem pl103 : Plain Tryz.prog 103 := fun _ _ => by kernel_rfl
theorem pl104 : Plain Tryz.prog 104 := fun _ _ => by kernel_rfl
theorem pl105 : Plain Tryz.prog 105 := fun _ _ => by kernel_rfl
theorem pl106 : Plain Tryz.prog 106 := fun _ _ => by kernel_rfl
theorem pl107 : Plain Tryz.prog 107 := fun _ _ => by kernel_rfl
theorem pl108 : Plain Tryz.prog 108 := fun _ _ => by kernel_rfl
theorem pl109 : Plain Tryz.prog 109 := fun _ _ => by kernel_rfl
theorem pl110 : Plain Tryz.prog 110 := fun _ _ => by kernel_rfl
theorem pl111 : Plain Tryz.prog 111 := fun _ _ => by kernel_rfl
theorem pl112 : Plain Tryz.prog 112 := fun _ _ => by kernel_rfl
theorem pl113 : Plain Tryz.prog 113 := fun _ _ => by kernel_rfl
theorem pl114 : Plain Tryz.prog 114 := fun _ _ => by kernel_rfl
theorem pl115 : Plain Tryz.prog 115 := fun _ _ => by kernel_rfl
theorem pl116 : Plain Tryz.prog 116 := fun _ _ => by kernel_rfl
theorem pl117 : Plain Tryz.prog 117 := fun _ _ => by kernel_rfl
theorem pl118 : Plain Tryz.prog 118 := fun _ _ => by kernel_rfl
theorem pl119 : Plain Tryz.prog 119 := fun _ _ => by kernel_rfl
theorem pl120 : Plain Tryz.prog 120 := fun _ _ => by kernel_rfl
theorem pl121 : Plain Tryz.prog 121 := fun _ _ => by kernel_rfl
theorem pl122 : Plain Tryz.prog 122 := fun _ _ => by kernel_rfl
theorem pl123 : Plain Tryz.prog 123 := fun _ _ => by kernel_rfl
theorem pl124 : Plain Tryz.prog 124 := fun _ _ => by kernel_rfl
theorem pl125 : Plain Tryz.prog 125 := fun _ _ => by kernel_rfl
theorem pl126 : Plain Tryz.prog 126 := fun _ _ => by kernel_rfl
theorem pl127 : Plain Tryz.prog 127 := fun _ _ => by kernel_rfl
theorem pl128 : Plain Tryz.prog 128 := fun _ _ => by kernel_rfl
theorem pl129 : Plain Tryz.prog 129 := fun _ _ => by kernel_rfl
theorem pl130 : Plain Tryz.prog 130 := fun _ _ => by kernel_rfl
theorem pl131 : Plain Tryz.prog 131 := fun _ _ => by kernel_rfl
theorem pl132 : Plain Tryz.prog 132 := fun _ _ => by kernel_rfl
theorem pl133 : Plain Tryz.prog 133 := fun _ _ => by kernel_rfl
theorem pl134 : Plain Tryz.prog 134 := fun _ _ => by kernel_rfl
theorem pl135 : Plain Tryz.prog 135 := fun _ _ => by kernel_rfl
theorem pl136 : Plain Tryz.prog 136 := fun _ _ => by kernel_rfl
theorem pl137 : Plain Tryz.prog 137 := fun _ _ => by kernel_rfl
theorem pl138 : Plain Tryz.prog 138 := fun _ _ => by kernel_rfl
theorem pl139 : Plain Tryz.prog 139 := fun _ _ => by kernel_rfl
theorem pl140 : Plain Tryz.prog 140 := fun _ _ => by kernel_rfl
theorem pl141 : Plain Tryz.prog 141 := fun _ _ => by kernel_rfl
theorem pl142 : Plain Tryz.prog 142 := fun _ _ => by kernel_rfl
theorem pl143 : Plain Tryz.prog 143 := fun _ _ => by kernel_rfl
theorem pl144 : Plain Tryz.prog 144 := fun _ _ => by kernel_rfl
theorem pl146 : Plain Tryz.prog 146 := fun _ _ => by kernel_rfl
theorem pl147 : Plain Tryz.prog 147 := fun _ _ => by kernel_rfl
theorem pl148 : Plain Tryz.prog 148 := fun _ _ => by kernel_rfl
theorem pl149 : Plain Tryz.prog 149 := fun _ _ => by kernel_rfl
theorem pl150 : Plain Tryz.prog 150 := fun _ _ => by kernel_rfl
theorem pl151 : Plain Tryz.prog 151 := fun _ _ => by kernel_rfl
theorem pl152 : Plain Tryz.prog 152 := fun _ _ => by kernel_rfl
theorem pl154 : Plain Tryz.prog 154 := fun _ _ => by kernel_rfl
theorem pl155 : Plain Tryz.prog 155 := fun _ _ => by kernel_rfl
theorem pl156 : Plain Tryz.prog 156 := fun _ _ => by kernel_rfl
theorem pl157 : Plain Tryz.prog 157 := fun _ _ => by kernel_rfl
theorem pl158 : Plain Tryz.prog 158 := fun _ _ => by kernel_rfl
theorem pl159 : Plain Tryz.prog 159 := fun _ _ => by kernel_rfl
theorem pl160 : Plain Tryz.prog 160 := fun _ _ => by kernel_rfl
@[simp] theorem keeps_eq : keepsOf tb = [103, 111, 118, 142, 151, 1000025, 1000026] := rfl
attribute [simp] ti0 ti1 ti2 ti3 ti4 ti5 ti6 ti7 ti8 ti9 ti10 ti11 ti12 ti13 ti14 ti15 ti16 ti17 ti18 ti19 ti20 ti21 ti22 ti23 ti24 ti25 ti26 ti27 ti28 ti29 ti30 ti31 ti32 ti33 ti34 ti35 ti36 ti37 ti38 ti39 ti40 ti41 ti42 ti43 ti44 ti45 ti46 ti47 ti48 ti49 ti50 ti51 ti52 ti53 ti54 ti55 ti56 ti57 ti58 ti59 ti60 ti61 ti62 ti63 ti64 ti65 ti66 ti67 ti68 ti69 ti70 ti71 ti72 ti73 ti74 ti75 ti76 ti77 ti78 ti79 ti80 ti81 ti82 ti83 ti84 ti85 ti86 ti87 ti88 ti89 ti90 ti91 ti92 ti93 ti94 ti95 ti96 ti97 ti98 ti99 ti100 ti101 ti102 ti103 ti104 ti105 ti106 ti107 ti108 ti109 ti110 ti111 ti112 ti113 ti114 ti115 ti116 ti117 ti118 ti119 ti120 ti121 ti122 ti123 ti124 ti125 ti126 ti127 ti128 ti129 ti130 ti131 ti132 ti133 ti134 ti135 ti136 ti137 ti138 ti139 ti140 ti141 ti142 ti143 ti144 ti145 ti146 ti147 ti148 ti149 ti150 ti151 ti152 ti153 ti154 ti155 ti156 ti157 ti158 ti159 ti160 ti161 ti162 ti163 ti164 ti165 ti166 ti167 ti168 ti169 ti170 ti171 ti172 ti173 ti174 ti175 ti176 ti177 ti178 ti179 ti180 ti181 ti182 ti183 ti184 ti185 ti186 ti187 ti188 ti189 ti190 ti191 ti192 ti193 ti194 ti195 ti196 ti197 ti198 ti199 ti200 ti201 ti202 ti203 ti204 ti205 ti206 ti207 ti208 ti209 ti210 ti211 ti212 ti213 ti214 ti215 ti216 ti217 ti218 ti219
@[simp] theorem tbl0 : look 0 tb = some ti0 := rfl
@[simp] theorem tbl1 : look 1 tb = some ti1 := rfl
@[simp] theorem tbl2 : look 2 tb = some ti2 := rfl
@[simp] theorem tbl3 : look 3 tb = some ti3 := rfl
@[simp] theorem tbl4 : look 4 tb = some ti4 := rfl
@[simp] theorem tbl5 : look 5 tb = some ti5 := rfl
@[simp] theorem tbl6 : look 6 tb = some ti6 := rfl
@[simp] theorem tbl7 : look 7 tb = some ti7 := rfl
@[simp] theorem tbl8 : look 8 tb = some ti8 := rfl
@[simp] theorem tbl9 : look 9 tb = some ti9 := rfl
@[simp] theorem tbl10 : look 10 tb = some ti10 := rfl
@[simp] theorem tbl11 : look 11 tb = some ti11 := rfl
@[simp] theorem tbl12 : look 12 tb = some ti12 := rfl
@[simp] theorem tbl13 : look 13 tb = some ti13 := rfl
@[simp] theorem tbl14 : look 14 tb = some ti14 := rfl
@[simp] theorem tbl15 : look 15 tb = some ti15 := rfl
@[simp] theorem tbl16 : look 16 tb = some ti16 := rfl
@[simp] theorem tbl17 : look 17 tb = some ti17 := rfl
@[simp] theorem tbl18 : look 18 tb = some ti18 := rfl
@[simp] theorem tbl19 : look 19 tb = some ti19 := rfl
@[simp] theorem tbl20 : look 20 tb = some ti20 := rfl
@[simp] theorem tbl21 : look 21 tb = some ti21 := rfl
@[simp] theorem tbl22 : look 22 tb = some ti22 := rfl
@[simp] theorem tbl23 : look 23 tb = some ti23 := rfl
@[simp] theorem tbl24 : look 24 tb = some ti24 := rfl
@[simp] theorem tbl25 : look 25 tb = some ti25 := rfl
@[simp] theorem tbl26 : look 26 tb = some ti26 := rfl
@[simp] theorem tbl27 : look 27 tb = some ti27 := rfl
@[simp] theorem tbl28 : look 28 tb = some ti28 := rfl
@[simp] theorem tbl29 : look 29 tb = some ti29 := rfl
@[simp] theorem tbl30 : look 30 tb = some ti30 := rfl
@[simp] theorem tbl31 : look 31 tb = some ti31 := rfl
@[simp] theorem tbl32 : look 32 tb = some ti32 := rfl
@[simp] theorem tbl33 : look 33 tb = some ti33 := rfl
@[simp] theorem tbl34 : look 34 tb = some ti34 := rfl
@[simp] theorem tbl35 : look 35 tb = some ti35 := rfl
@[simp] theorem tbl36 : look 36 tb = some ti36 := rfl
@[simp] theorem tbl37 : look 37 tb = some ti37 := rfl
@[simp] theorem tbl38 : look 38 tb = some ti38 := rfl
@[simp] theorem tbl39 : look 39 tb = some ti39 := rfl
@[simp] theorem tbl40 : look 40 tb = some ti40 := rfl
@[simp] theorem tbl41 : look 41 tb = some ti41 := rfl
@[simp] theorem tbl42 : look 42 tb = some ti42 := rfl
@[simp] theorem tbl43 : look 43 tb = some ti43 := rfl
@[simp] theorem tbl44 : look 44 tb = some ti44 := rfl
@[simp] theorem tbl45 : look 45 tb = some ti45 := rfl
@[simp] theorem tbl46 : look 46 tb = some ti46 := rfl
@[simp] theorem tbl47 : look 47 tb = some ti47 := rfl
@[simp] theorem tbl48 : look 48 tb = some ti48 := rfl
@[simp] theorem tbl49 : look 49 tb = some ti49 := rfl
@[simp] theorem tbl50 : look 50 tb = some ti50 := rfl
@[simp] theorem tbl51 : look 51 tb = some ti51 := rfl
@[simp] theorem tbl52 : look 52 tb = some ti52 := rfl
@[simp] theorem tbl53 : look 53 tb = some ti53 := rfl
@[simp] theorem tbl54 : look 54 tb = some ti54 := rfl
@[simp] theorem tbl55 : look 55 tb = some ti55 := rfl
@[simp] theorem tbl56 : look 56 tb = some ti56 := rfl
@[simp] theorem tbl57 : look 57 tb = some ti57 := rfl
@[simp] theorem tbl58 : look 58 tb = some ti58 := rfl
@[simp] theorem tbl59 : look 59 tb = some ti59 := rfl
@[simp] theorem tbl60 : look 60 tb = some ti60 := rfl
@[simp] theorem tbl61 : look 61 tb = some ti61 := rfl
@[simp] theorem tbl62 : look 62 tb = some ti62 := rfl
@[simp] theorem tbl63 : look 63 tb = some ti63 := rfl
@[simp] theorem tbl64 : look 64 tb = some ti64 := rfl
@[simp] theorem tbl65 : look 65 tb = some ti65 := rfl
@[simp] theorem tbl66 : look 66 tb = some ti66 := rfl
@[simp] theorem tbl67 : look 67 tb = some ti67 := rfl
@[simp] theorem tbl68 : look 68 tb = some ti68 := rfl
@[simp] theorem tbl69 : look 69 tb = some ti69 := rfl
@[simp] theorem tbl70 : look 70 tb = some ti70 := rfl
@[simp] theorem tbl71 : look 71 tb = some ti71 := rfl
@[simp] theorem tbl72 : look 72 tb = some ti72 := rfl
@[simp] theorem tbl73 : look 73 tb = some ti73 := rfl
@[simp] theorem tbl74 : look 74 tb = some ti74 := rfl
@[simp] theorem tbl75 : look 75 tb = some ti75 := rfl
@[simp] theorem tbl76 : look 76 tb = some ti76 := rfl
@[simp] theorem tbl77 : look 77 tb = some ti77 := rfl
@[simp] theorem tbl78 : look 78 tb = some ti78 := rfl
@[simp] theorem tbl79 : look 79 tb = some ti79 := rfl
@[simp] theorem tbl80 : look 80 tb = some ti80 := rfl
@[simp] theorem tbl81 : look 81 tb = some ti81 := rfl
@[simp] theorem tbl82 : look 82 tb = some ti82 := rfl
@[simp] theorem tbl83 : look 83 tb = some ti83 := rfl
@[simp] theorem tbl84 : look 84 tb = some ti84 := rfl
@[simp] theorem tbl85 : look 85 tb = some ti85 := rfl
@[simp] theorem tbl86 : look 86 tb = some ti86 := rfl
@[simp] theorem tbl87 : look 87 tb = some ti87 := rfl
@[simp] theorem tbl88 : look 88 tb = some ti88 := rfl
@[simp] theorem tbl89 : look 89 tb = some ti89 := rfl
@[simp] theorem tbl90 : look 90 tb = some ti90 := rfl
@[simp] theorem tbl91 : look 91 tb = some ti91 := rfl
@[simp] theorem tbl92 : look 92 tb = some ti92 := rfl
@[simp] theorem tbl93 : look 93 tb = some ti93 := rfl
@[simp] theorem tbl94 : look 94 tb = some ti94 := rfl
@[simp] theorem tbl95 : look 95 tb = some ti95 := rfl
@[simp] theorem tbl96 : look 96 tb = some ti96 := rfl
@[simp] theorem tbl97 : look 97 tb = some ti97 := rfl
@[simp] theorem tbl98 : look 98 tb = some ti98 := rfl
@[simp] theorem tbl99 : look 99 tb = some ti99 := rfl
@[simp] theorem tbl100 : look 100 tb = some ti100 := rfl
@[simp] theorem tbl101 : look 101 tb = some ti101 := rfl
@[simp] theorem tbl102 : look 102 tb = some ti102 := rfl
@[simp] theorem tbl103 : look 103 tb = some ti103 := rfl
@[simp] theorem tbl104 : look 104 tb = some ti104 := rfl
@[simp] theorem tbl105 : look 105 tb = some ti105 := rfl
@[simp] theorem tbl106 : look 106 tb = some ti106 := rfl
@[simp] theorem tbl107 : look 107 tb = some ti107 := rfl
@[simp] theorem tbl108 : look 108 tb = some ti108 := rfl
@[simp] theorem tbl109 : look 109 tb = some ti109 := rfl
@[simp] theorem tbl110 : look 110 tb = some ti110 := rfl
@[simp] theorem tbl111 : look 111 tb = some ti111 := rfl
@[simp] theorem tbl112 : look 112 tb = some ti112 := rfl
@[simp] theorem tbl113 : look 113 tb = some ti113 := rfl
@[simp] theorem tbl114 : look 114 tb = some ti114 := rfl
@[simp] theorem tbl115 : look 115 tb = some ti115 := rfl
@[simp] theorem tbl116 : look 116 tb = some ti116 := rfl
@[simp] theorem tbl117 : look 117 tb = some ti117 := rfl
@[simp] theorem tbl118 : look 118 tb = some ti118 := rfl
@[simp] theorem tbl119 : look 119 tb = some ti119 := rfl
@[simp] theorem tbl120 : look 120 tb = some ti120 := rfl
@[simp] theorem tbl121 : look 121 tb = some ti121 := rfl
@[simp] theorem tbl122 : look 122 tb = some ti122 := rfl
@[simp] theorem tbl123 : look 123 tb = some ti123 := rfl
@[simp] theorem tbl124 : look 124 tb = some ti124 := rfl
@[simp] theorem tbl125 : look 125 tb = some ti125 := rfl
@[simp] theorem tbl126 : look 126 tb = some ti126 := rfl
@[simp] theorem tbl127 : look 127 tb = some ti127 := rfl
@[simp] theorem tbl128 : look 128 tb = some ti128 := rfl
@[simp] theorem tbl129 : look 129 tb = some ti129 := rfl
@[simp] theorem tbl130 : look 130 tb = some ti130 := rfl
@[simp] theorem tbl131 : look 131 tb = some ti131 := rfl
@[simp] theorem tbl132 : look 132 tb = some ti132 := rfl
@[simp] theorem tbl133 : look 133 tb = some ti133 := rfl
@[simp] theorem tbl134 : look 134 tb = some ti134 := rfl
@[simp] theorem tbl135 : look 135 tb = some ti135 := rfl
@[simp] theorem tbl136 : look 136 tb = some ti136 := rfl
@[simp] theorem tbl137 : look 137 tb = some ti137 := rfl
@[simp] theorem tbl138 : look 138 tb = some ti138 := rfl
@[simp] theorem tbl139 : look 139 tb = some ti139 := rfl
@[simp] theorem tbl140 : look 140 tb = some ti140 := rfl
@[simp] theorem tbl141 : look 141 tb = some ti141 := rfl
@[simp] theorem tbl142 : look 142 tb = some ti142 := rfl
@[simp] theorem tbl143 : look 143 tb = some ti143 := rfl
@[simp] theorem tbl144 : look 144 tb = some ti144 := rfl
@[simp] theorem tbl145 : look 145 tb = some ti145 := rfl
@[simp] theorem tbl146 : look 146 tb = some ti146 := rfl
@[simp] theorem tbl147 : look 147 tb = some ti147 := rfl
@[simp] theorem tbl148 : look 148 tb = some ti148 := rfl
@[simp] theorem tbl149 : look 149 tb = some ti149 := rfl
@[simp] theorem tbl150 : look 150 tb = some ti150 := rfl
@[simp] theorem tbl151 : look 151 tb = some ti151 := rfl
@[simp] theorem tbl152 : look 152 tb = some ti152 := rfl
@[simp] theorem tbl153 : look 153 tb = some ti153 := rfl
@[simp] theorem tbl154 : look 154 tb = some ti154 := rfl
@[simp] theorem tbl155 : look 155 tb = some ti155 := rfl
@[simp] theorem tbl156 : look 156 tb = some ti156 := rfl
@[simp] theorem tbl157 : look 157 tb = some ti157 := rfl
@[simp] theorem tbl158 : look 158 tb = some ti158 := rfl
@[simp] theorem tbl159 : look 159 tb = some ti159 := rfl
@[simp] theorem tbl160 : look 160 tb = some ti160 := rfl
@[simp] theorem tbl161 : look 161 tb = some ti161 := rfl
@[simp] theorem tbl162 : look 162 tb = some ti162 := rfl
@[simp] theorem tbl163 : look 163 tb = some ti163 := rfl
@[simp] theorem tbl164 : look 164 tb = some ti164 := rfl
@[simp] theorem tbl165 : look 165 tb = some ti165 := rfl
@[simp] theorem tbl166 : look 166 tb = some ti166 := rfl
@[simp] theorem tbl167 : look 167 tb = some ti167 := rfl
@[simp] theorem tbl168 : look 168 tb = some ti168 := rfl
@[simp] theorem tbl169 : look 169 tb = some ti169 := rfl
@[simp] theorem tbl170 : look 170 tb = some ti170 := rfl
@[simp] theorem tbl171 : look 171 tb = some ti171 := rfl
@[simp] theorem tbl172 : look 172 tb = some ti172 := rfl
@[simp] theorem tbl173 : look 173 tb = some ti173 := rfl
@[simp] theorem tbl174 : look 174 tb = some ti174 := rfl
@[simp] theorem tbl175 : look 175 tb = some ti175 := rfl
@[simp] theorem tbl176 : look 176 tb = some ti176 := rfl
@[simp] theorem tbl177 : look 177 tb = some ti177 := rfl
@[simp] theorem tbl178 : look 178 tb = some ti178 := rfl
@[simp] theorem tbl179 : look 179 tb = some ti179 := rfl
@[simp] theorem tbl180 : look 180 tb = some ti180 := rfl
@[simp] theorem tbl181 : look 181 tb = some ti181 := rfl
@[simp] theorem tbl182 : look 182 tb = some ti182 := rfl
@[simp] theorem tbl183 : look 183 tb = some ti183 := rfl
@[simp] theorem tbl184 : look 184 tb = some ti184 := rfl
@[simp] theorem tbl185 : look 185 tb = some ti185 := rfl
@[simp] theorem tbl186 : look 186 tb = some ti186 := rfl
@[simp] theorem tbl187 : look 187 tb = some ti187 := rfl
@[simp] theorem tbl188 : look 188 tb = some ti188 := rfl
@[simp] theorem tbl189 : look 189 tb = some ti189 := rfl
@[simp] theorem tbl190 : look 190 tb = some ti190 := rfl
@[simp] theorem tbl191 : look 191 tb = some ti191 := rfl
@[simp] theorem tbl192 : look 192 tb = some ti192 := rfl
@[simp] theorem tbl193 : look 193 tb = some ti193 := rfl
@[simp] theorem tbl194 : look 194 tb = some ti194 := rfl
@[simp] theorem tbl195 : look 195 tb = some ti195 := rfl
@[simp] theorem tbl196 : look 196 tb = some ti196 := rfl
@[simp] theorem tbl197 : look 197 tb = some ti197 := rfl
@[simp] theorem tbl198 : look 198 tb = some ti198 := rfl
@[simp] theorem tbl199 : look 199 tb = some ti199 := rfl
@[simp] theorem tbl200 : look 200 tb = some ti200 := rfl
@[simp] theorem tbl201 : look 201 tb = some ti201 := rfl
@[simp] theorem tbl202 : look 202 tb = some ti202 := rfl
@[simp] theorem tbl203 : look 203 tb = some ti203 := rfl
@[simp] theorem tbl204 : look 204 tb = some ti204 := rfl
@[simp] theorem tbl205 : look 205 tb = some ti205 := rfl
@[simp] theorem tbl206 : look 206 tb = some ti206 := rfl
@[simp] theorem tbl207 : look 207 tb = some ti207 := rfl
@[simp] theorem tbl208 : look 208 tb = some ti208 := rfl
@[simp] theorem tbl209 : look 209 tb = some ti209 := rfl
@[simp] theorem tbl210 : look 210 tb = some ti210 := rfl
@[simp] theorem tbl211 : look 211 tb = some ti211 := rfl
@[simp] theorem tbl212 : look 212 tb = some ti212 := rfl
@[simp] theorem tbl213 : look 213 tb = some ti213 := rfl
@[simp] theorem tbl214 : look 214 tb = some ti214 := rfl
@[simp] theorem tbl215 : look 215 tb = some ti215 := rfl
@[simp] theorem tbl216 : look 216 tb = some ti216 := rfl
@[simp] theorem tbl217 : look 217 tb = some ti217 := rfl
@[simp] theorem tbl218 : look 218 tb = some ti218 := rfl
@[simp] theorem tbl219 : look 219 tb = some ti219 := rfl
end Go.Proofs.YtajjmhpdiikjhaaGreat
