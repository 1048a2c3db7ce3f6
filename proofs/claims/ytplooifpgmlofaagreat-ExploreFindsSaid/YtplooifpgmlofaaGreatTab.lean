/- The types of this seat, and that they are the program's. No condition. -/
import Derived.Test.YtplooifpgmlofaaGreatProg
import Derived.Test.YtplooifpgmlofaaGreatV19
namespace Go.Proofs.YtplooifpgmlofaaGreat
open Go.RowKit
set_option maxRecDepth 20000
def ti0 : TI := ⟨(TypeDesc.tuple #[]), 1, 0, [.tuple #[]], false, [34, 37, 38, 39, 50, 58], []⟩
theorem tio0 : TIOk Tryz.prog (0, ti0) := ⟨by kernel_rfl, by kernel_rfl, by kernel_rfl, nofun, trivial⟩
def ti1 : TI := ⟨(TypeDesc.func #[] #[] false), 1, 8, [.nilFunc], false, [], []⟩
theorem tio1 : TIOk Tryz.prog (1, ti1) := ⟨by kernel_rfl, by kernel_rfl, by kernel_rfl, nofun, trivial⟩
def ti2 : TI := ⟨(TypeDesc.int IntKind.i64), 1, 8, [.int .i64 0], false, [], []⟩
theorem tio2 : TIOk Tryz.prog (2, ti2) := ⟨by kernel_rfl, by kernel_rfl, by kernel_rfl, nofun, trivial⟩
def ti3 : TI := ⟨(TypeDesc.int IntKind.i64), 1, 8, [.int .i64 0], false, [], []⟩
theorem tio3 : TIOk Tryz.prog (3, ti3) := ⟨by kernel_rfl, by kernel_rfl, by kernel_rfl, nofun, trivial⟩
def ti4 : TI := ⟨TypeDesc.bool, 1, 1, [.bool false], false, [], []⟩
theorem tio4 : TIOk Tryz.prog (4, ti4) := ⟨by kernel_rfl, by kernel_rfl, by kernel_rfl, nofun, trivial⟩
def ti5 : TI := ⟨(TypeDesc.int IntKind.u8), 1, 1, [.int .u8 0], false, [], []⟩
theorem tio5 : TIOk Tryz.prog (5, ti5) := ⟨by kernel_rfl, by kernel_rfl, by kernel_rfl, nofun, trivial⟩
def ti6 : TI := ⟨(TypeDesc.int IntKind.u8), 1, 1, [.int .u8 0], false, [], []⟩
theorem tio6 : TIOk Tryz.prog (6, ti6) := ⟨by kernel_rfl, by kernel_rfl, by kernel_rfl, nofun, trivial⟩
def ti7 : TI := ⟨(TypeDesc.struct #[{ name := "x", type := 2, offset := 0, embedded := false, tag := "", pkgPath := "runtime", byteOffset := 0 }, { name := "y", type := 3, offset := 1, embedded := false, tag := "", pkgPath := "runtime", byteOffset := 8 }, { name := "signed", type := 4, offset := 2, embedded := false, tag := "", pkgPath := "runtime", byteOffset := 16 }, { name := "code", type := 6, offset := 3, embedded := false, tag := "", pkgPath := "runtime", byteOffset := 17 }]), 4, 24, [.int .i64 0, .int .i64 0, .bool false, .int .u8 0], true, [], []⟩
theorem tio7 : TIOk Tryz.prog (7, ti7) := ⟨by kernel_rfl, by kernel_rfl, by kernel_rfl, fun _ => ⟨by kernel_rfl, by kernel_rfl⟩, trivial⟩
def ti8 : TI := ⟨(TypeDesc.struct #[{ name := "x", type := 2, offset := 0, embedded := false, tag := "", pkgPath := "runtime", byteOffset := 0 }, { name := "y", type := 3, offset := 1, embedded := false, tag := "", pkgPath := "runtime", byteOffset := 8 }, { name := "signed", type := 4, offset := 2, embedded := false, tag := "", pkgPath := "runtime", byteOffset := 16 }, { name := "code", type := 6, offset := 3, embedded := false, tag := "", pkgPath := "runtime", byteOffset := 17 }]), 4, 24, [.int .i64 0, .int .i64 0, .bool false, .int .u8 0], true, [], []⟩
theorem tio8 : TIOk Tryz.prog (8, ti8) := ⟨by kernel_rfl, by kernel_rfl, by kernel_rfl, fun _ => ⟨by kernel_rfl, by kernel_rfl⟩, trivial⟩
def ti9 : TI := ⟨TypeDesc.string, 1, 16, [.string { data := #[] }], false, [], []⟩
theorem tio9 : TIOk Tryz.prog (9, ti9) := ⟨by kernel_rfl, by kernel_rfl, by kernel_rfl, nofun, trivial⟩
def ti10 : TI := ⟨TypeDesc.string, 1, 16, [.string { data := #[] }], false, [], []⟩
theorem tio10 : TIOk Tryz.prog (10, ti10) := ⟨by kernel_rfl, by kernel_rfl, by kernel_rfl, nofun, trivial⟩
def ti11 : TI := ⟨TypeDesc.string, 1, 16, [.string { data := #[] }], false, [], []⟩
theorem tio11 : TIOk Tryz.prog (11, ti11) := ⟨by kernel_rfl, by kernel_rfl, by kernel_rfl, nofun, trivial⟩
def ti12 : TI := ⟨(TypeDesc.int IntKind.u64), 1, 8, [.int .u64 0], false, [], []⟩
theorem tio12 : TIOk Tryz.prog (12, ti12) := ⟨by kernel_rfl, by kernel_rfl, by kernel_rfl, nofun, trivial⟩
def ti13 : TI := ⟨(TypeDesc.struct #[{ name := "msg", type := 9, offset := 0, embedded := false, tag := "", pkgPath := "runtime", byteOffset := 0 }, { name := "addr", type := 12, offset := 1, embedded := false, tag := "", pkgPath := "runtime", byteOffset := 16 }]), 2, 24, [.string { data := #[] }, .int .u64 0], false, [], []⟩
theorem tio13 : TIOk Tryz.prog (13, ti13) := ⟨by kernel_rfl, by kernel_rfl, by kernel_rfl, nofun, trivial⟩
def ti14 : TI := ⟨(TypeDesc.struct #[{ name := "msg", type := 9, offset := 0, embedded := false, tag := "", pkgPath := "runtime", byteOffset := 0 }, { name := "addr", type := 12, offset := 1, embedded := false, tag := "", pkgPath := "runtime", byteOffset := 16 }]), 2, 24, [.string { data := #[] }, .int .u64 0], false, [], []⟩
theorem tio14 : TIOk Tryz.prog (14, ti14) := ⟨by kernel_rfl, by kernel_rfl, by kernel_rfl, nofun, trivial⟩
def ti15 : TI := ⟨(TypeDesc.pointer 192), 1, 8, [.pointer none], false, [], []⟩
theorem tio15 : TIOk Tryz.prog (15, ti15) := ⟨by kernel_rfl, by kernel_rfl, by kernel_rfl, nofun, trivial⟩
def ti16 : TI := ⟨(TypeDesc.pointer 195), 1, 8, [.pointer none], false, [], []⟩
theorem tio16 : TIOk Tryz.prog (16, ti16) := ⟨by kernel_rfl, by kernel_rfl, by kernel_rfl, nofun, trivial⟩
def ti17 : TI := ⟨(TypeDesc.pointer 204), 1, 8, [.pointer none], false, [], []⟩
theorem tio17 : TIOk Tryz.prog (17, ti17) := ⟨by kernel_rfl, by kernel_rfl, by kernel_rfl, nofun, trivial⟩
def ti18 : TI := ⟨(TypeDesc.struct #[{ name := "typ", type := 17, offset := 0, embedded := false, tag := "", pkgPath := "internal/runtime/maps", byteOffset := 0 }]), 1, 8, [.pointer none], false, [], []⟩
theorem tio18 : TIOk Tryz.prog (18, ti18) := ⟨by kernel_rfl, by kernel_rfl, by kernel_rfl, nofun, trivial⟩
def ti19 : TI := ⟨(TypeDesc.struct #[{ name := "typ", type := 17, offset := 0, embedded := false, tag := "", pkgPath := "internal/runtime/maps", byteOffset := 0 }]), 1, 8, [.pointer none], false, [], []⟩
theorem tio19 : TIOk Tryz.prog (19, ti19) := ⟨by kernel_rfl, by kernel_rfl, by kernel_rfl, nofun, trivial⟩
def ti20 : TI := ⟨(TypeDesc.interface #[]), 1, 16, [.nilIface], false, [], []⟩
theorem tio20 : TIOk Tryz.prog (20, ti20) := ⟨by kernel_rfl, by kernel_rfl, by kernel_rfl, nofun, trivial⟩
def ti21 : TI := ⟨(TypeDesc.int IntKind.i32), 1, 4, [.int .i32 0], false, [], []⟩
theorem tio21 : TIOk Tryz.prog (21, ti21) := ⟨by kernel_rfl, by kernel_rfl, by kernel_rfl, nofun, trivial⟩
def ti22 : TI := ⟨(TypeDesc.slice 140), 1, 24, [.slice none 0 0], false, [], []⟩
theorem tio22 : TIOk Tryz.prog (22, ti22) := ⟨by kernel_rfl, by kernel_rfl, by kernel_rfl, nofun, trivial⟩
def ti23 : TI := ⟨(TypeDesc.slice 69), 1, 24, [.slice none 0 0], false, [], []⟩
theorem tio23 : TIOk Tryz.prog (23, ti23) := ⟨by kernel_rfl, by kernel_rfl, by kernel_rfl, nofun, trivial⟩
def ti24 : TI := ⟨(TypeDesc.slice 3), 1, 24, [.slice none 0 0], false, [], []⟩
theorem tio24 : TIOk Tryz.prog (24, ti24) := ⟨by kernel_rfl, by kernel_rfl, by kernel_rfl, nofun, trivial⟩
def ti25 : TI := ⟨(TypeDesc.struct #[{ name := "Locks", type := 22, offset := 0, embedded := false, tag := "", pkgPath := "", byteOffset := 0 }, { name := "Queues", type := 23, offset := 1, embedded := false, tag := "", pkgPath := "", byteOffset := 24 }, { name := "Groups", type := 24, offset := 2, embedded := false, tag := "", pkgPath := "", byteOffset := 48 }]), 3, 72, [.slice none 0 0, .slice none 0 0, .slice none 0 0], true, [], []⟩
theorem tio25 : TIOk Tryz.prog (25, ti25) := ⟨by kernel_rfl, by kernel_rfl, by kernel_rfl, fun _ => ⟨by kernel_rfl, by kernel_rfl⟩, trivial⟩
def ti26 : TI := ⟨(TypeDesc.struct #[{ name := "Locks", type := 22, offset := 0, embedded := false, tag := "", pkgPath := "", byteOffset := 0 }, { name := "Queues", type := 23, offset := 1, embedded := false, tag := "", pkgPath := "", byteOffset := 24 }, { name := "Groups", type := 24, offset := 2, embedded := false, tag := "", pkgPath := "", byteOffset := 48 }]), 3, 72, [.slice none 0 0, .slice none 0 0, .slice none 0 0], true, [], []⟩
theorem tio26 : TIOk Tryz.prog (26, ti26) := ⟨by kernel_rfl, by kernel_rfl, by kernel_rfl, fun _ => ⟨by kernel_rfl, by kernel_rfl⟩, trivial⟩
def ti27 : TI := ⟨(TypeDesc.slice 64), 1, 24, [.slice none 0 0], false, [], []⟩
theorem tio27 : TIOk Tryz.prog (27, ti27) := ⟨by kernel_rfl, by kernel_rfl, by kernel_rfl, nofun, trivial⟩
def ti28 : TI := ⟨(TypeDesc.struct #[{ name := "S", type := 26, offset := 0, embedded := false, tag := "", pkgPath := "", byteOffset := 0 }, { name := "Programs", type := 27, offset := 3, embedded := false, tag := "", pkgPath := "", byteOffset := 72 }]), 4, 96, [.slice none 0 0, .slice none 0 0, .slice none 0 0, .slice none 0 0], true, [], []⟩
theorem tio28 : TIOk Tryz.prog (28, ti28) := ⟨by kernel_rfl, by kernel_rfl, by kernel_rfl, fun _ => ⟨by kernel_rfl, by kernel_rfl⟩, trivial⟩
def ti29 : TI := ⟨(TypeDesc.struct #[{ name := "S", type := 26, offset := 0, embedded := false, tag := "", pkgPath := "", byteOffset := 0 }, { name := "Programs", type := 27, offset := 3, embedded := false, tag := "", pkgPath := "", byteOffset := 72 }]), 4, 96, [.slice none 0 0, .slice none 0 0, .slice none 0 0, .slice none 0 0], true, [], []⟩
theorem tio29 : TIOk Tryz.prog (29, ti29) := ⟨by kernel_rfl, by kernel_rfl, by kernel_rfl, fun _ => ⟨by kernel_rfl, by kernel_rfl⟩, trivial⟩
def ti30 : TI := ⟨(TypeDesc.func #[29] #[4] false), 1, 8, [.nilFunc], false, [], []⟩
theorem tio30 : TIOk Tryz.prog (30, ti30) := ⟨by kernel_rfl, by kernel_rfl, by kernel_rfl, nofun, trivial⟩
def ti31 : TI := ⟨(TypeDesc.func #[] #[4] false), 1, 8, [.nilFunc], false, [], []⟩
theorem tio31 : TIOk Tryz.prog (31, ti31) := ⟨by kernel_rfl, by kernel_rfl, by kernel_rfl, nofun, trivial⟩
def ti32 : TI := ⟨(TypeDesc.slice 9), 1, 24, [.slice none 0 0], false, [], []⟩
theorem tio32 : TIOk Tryz.prog (32, ti32) := ⟨by kernel_rfl, by kernel_rfl, by kernel_rfl, nofun, trivial⟩
def ti33 : TI := ⟨(TypeDesc.struct #[{ name := "Runs", type := 3, offset := 0, embedded := false, tag := "", pkgPath := "", byteOffset := 0 }, { name := "Stuck", type := 3, offset := 1, embedded := false, tag := "", pkgPath := "", byteOffset := 8 }, { name := "Outcomes", type := 32, offset := 2, embedded := false, tag := "", pkgPath := "", byteOffset := 16 }, { name := "Full", type := 4, offset := 3, embedded := false, tag := "", pkgPath := "", byteOffset := 40 }]), 4, 48, [.int .i64 0, .int .i64 0, .slice none 0 0, .bool false], true, [], []⟩
theorem tio33 : TIOk Tryz.prog (33, ti33) := ⟨by kernel_rfl, by kernel_rfl, by kernel_rfl, fun _ => ⟨by kernel_rfl, by kernel_rfl⟩, trivial⟩
def ti34 : TI := ⟨(TypeDesc.struct #[{ name := "Runs", type := 3, offset := 0, embedded := false, tag := "", pkgPath := "", byteOffset := 0 }, { name := "Stuck", type := 3, offset := 1, embedded := false, tag := "", pkgPath := "", byteOffset := 8 }, { name := "Outcomes", type := 32, offset := 2, embedded := false, tag := "", pkgPath := "", byteOffset := 16 }, { name := "Full", type := 4, offset := 3, embedded := false, tag := "", pkgPath := "", byteOffset := 40 }]), 4, 48, [.int .i64 0, .int .i64 0, .slice none 0 0, .bool false], true, [], []⟩
theorem tio34 : TIOk Tryz.prog (34, ti34) := ⟨by kernel_rfl, by kernel_rfl, by kernel_rfl, fun _ => ⟨by kernel_rfl, by kernel_rfl⟩, trivial⟩
def ti35 : TI := ⟨(TypeDesc.int IntKind.i64), 1, 8, [.int .i64 0], false, [], []⟩
theorem tio35 : TIOk Tryz.prog (35, ti35) := ⟨by kernel_rfl, by kernel_rfl, by kernel_rfl, nofun, trivial⟩
def ti36 : TI := ⟨(TypeDesc.tuple #[34, 35]), 1, 0, [.tuple { toList := [.agg { toList := [.int .i64 0, .int .i64 0, .slice none 0 0, .bool false] }, .int .i64 0] }], false, [], []⟩
theorem tio36 : TIOk Tryz.prog (36, ti36) := ⟨by kernel_rfl, by kernel_rfl, by kernel_rfl, nofun, trivial⟩
def ti37 : TI := ⟨(TypeDesc.func #[38, 3] #[34, 35] false), 1, 8, [.nilFunc], false, [], []⟩
theorem tio37 : TIOk Tryz.prog (37, ti37) := ⟨by kernel_rfl, by kernel_rfl, by kernel_rfl, nofun, trivial⟩
def ti38 : TI := ⟨(TypeDesc.pointer 43), 1, 8, [.pointer none], false, [], [("Done", 74), ("Enabled", 52), ("Footprint", 29), ("Outcome", 53), ("Start", 28), ("Step", 30)]⟩
theorem tio38 : TIOk Tryz.prog (38, ti38) := ⟨by kernel_rfl, by kernel_rfl, by kernel_rfl, nofun, ⟨fun _ _ => by kernel_rfl, fun _ _ => by kernel_rfl, fun _ _ => by kernel_rfl, fun _ _ => by kernel_rfl, fun _ _ => by kernel_rfl, fun _ _ => by kernel_rfl, trivial⟩⟩
def ti39 : TI := ⟨(TypeDesc.pointer 115), 1, 8, [.pointer none], false, [], []⟩
theorem tio39 : TIOk Tryz.prog (39, ti39) := ⟨by kernel_rfl, by kernel_rfl, by kernel_rfl, nofun, trivial⟩
def ti40 : TI := ⟨(TypeDesc.slice 128), 1, 24, [.slice none 0 0], false, [], []⟩
theorem tio40 : TIOk Tryz.prog (40, ti40) := ⟨by kernel_rfl, by kernel_rfl, by kernel_rfl, nofun, trivial⟩
def ti41 : TI := ⟨(TypeDesc.slice 130), 1, 24, [.slice none 0 0], false, [], []⟩
theorem tio41 : TIOk Tryz.prog (41, ti41) := ⟨by kernel_rfl, by kernel_rfl, by kernel_rfl, nofun, trivial⟩
def ti42 : TI := ⟨(TypeDesc.struct #[{ name := "X", type := 29, offset := 0, embedded := false, tag := "", pkgPath := "", byteOffset := 0 }, { name := "b", type := 39, offset := 4, embedded := false, tag := "", pkgPath := "spillway/spillwayref33", byteOffset := 96 }, { name := "tasks", type := 40, offset := 5, embedded := false, tag := "", pkgPath := "spillway/spillwayref33", byteOffset := 104 }, { name := "waits", type := 41, offset := 6, embedded := false, tag := "", pkgPath := "spillway/spillwayref33", byteOffset := 128 }]), 7, 152, [.slice none 0 0, .slice none 0 0, .slice none 0 0, .slice none 0 0, .pointer none, .slice none 0 0, .slice none 0 0], true, [], []⟩
theorem tio42 : TIOk Tryz.prog (42, ti42) := ⟨by kernel_rfl, by kernel_rfl, by kernel_rfl, fun _ => ⟨by kernel_rfl, by kernel_rfl⟩, trivial⟩
def ti43 : TI := ⟨(TypeDesc.struct #[{ name := "X", type := 29, offset := 0, embedded := false, tag := "", pkgPath := "", byteOffset := 0 }, { name := "b", type := 39, offset := 4, embedded := false, tag := "", pkgPath := "spillway/spillwayref33", byteOffset := 96 }, { name := "tasks", type := 40, offset := 5, embedded := false, tag := "", pkgPath := "spillway/spillwayref33", byteOffset := 104 }, { name := "waits", type := 41, offset := 6, embedded := false, tag := "", pkgPath := "spillway/spillwayref33", byteOffset := 128 }]), 7, 152, [.slice none 0 0, .slice none 0 0, .slice none 0 0, .slice none 0 0, .pointer none, .slice none 0 0, .slice none 0 0], true, [], []⟩
theorem tio43 : TIOk Tryz.prog (43, ti43) := ⟨by kernel_rfl, by kernel_rfl, by kernel_rfl, fun _ => ⟨by kernel_rfl, by kernel_rfl⟩, trivial⟩
def ti44 : TI := ⟨(TypeDesc.slice 24), 1, 24, [.slice none 0 0], false, [], []⟩
theorem tio44 : TIOk Tryz.prog (44, ti44) := ⟨by kernel_rfl, by kernel_rfl, by kernel_rfl, nofun, trivial⟩
def ti45 : TI := ⟨(TypeDesc.func #[38, 3] #[44] false), 1, 8, [.nilFunc], false, [], []⟩
theorem tio45 : TIOk Tryz.prog (45, ti45) := ⟨by kernel_rfl, by kernel_rfl, by kernel_rfl, nofun, trivial⟩
def ti46 : TI := ⟨(TypeDesc.pointer 48), 1, 8, [.pointer none], false, [], []⟩
theorem tio46 : TIOk Tryz.prog (46, ti46) := ⟨by kernel_rfl, by kernel_rfl, by kernel_rfl, nofun, trivial⟩
def ti47 : TI := ⟨(TypeDesc.struct #[{ name := "Player", type := 43, offset := 0, embedded := true, tag := "", pkgPath := "", byteOffset := 0 }, { name := "at", type := 24, offset := 7, embedded := false, tag := "", pkgPath := "spillway/spillwaylaw33", byteOffset := 152 }, { name := "runs", type := 44, offset := 8, embedded := false, tag := "", pkgPath := "spillway/spillwaylaw33", byteOffset := 176 }]), 9, 200, [.slice none 0 0, .slice none 0 0, .slice none 0 0, .slice none 0 0, .pointer none, .slice none 0 0, .slice none 0 0, .slice none 0 0, .slice none 0 0], true, [], []⟩
theorem tio47 : TIOk Tryz.prog (47, ti47) := ⟨by kernel_rfl, by kernel_rfl, by kernel_rfl, fun _ => ⟨by kernel_rfl, by kernel_rfl⟩, trivial⟩
def ti48 : TI := ⟨(TypeDesc.struct #[{ name := "Player", type := 43, offset := 0, embedded := true, tag := "", pkgPath := "", byteOffset := 0 }, { name := "at", type := 24, offset := 7, embedded := false, tag := "", pkgPath := "spillway/spillwaylaw33", byteOffset := 152 }, { name := "runs", type := 44, offset := 8, embedded := false, tag := "", pkgPath := "spillway/spillwaylaw33", byteOffset := 176 }]), 9, 200, [.slice none 0 0, .slice none 0 0, .slice none 0 0, .slice none 0 0, .pointer none, .slice none 0 0, .slice none 0 0, .slice none 0 0, .slice none 0 0], true, [], []⟩
theorem tio48 : TIOk Tryz.prog (48, ti48) := ⟨by kernel_rfl, by kernel_rfl, by kernel_rfl, fun _ => ⟨by kernel_rfl, by kernel_rfl⟩, trivial⟩
def ti49 : TI := ⟨(TypeDesc.func #[83, 3] #[34, 35] false), 1, 8, [.nilFunc], false, [], []⟩
theorem tio49 : TIOk Tryz.prog (49, ti49) := ⟨by kernel_rfl, by kernel_rfl, by kernel_rfl, nofun, trivial⟩
def ti50 : TI := ⟨(TypeDesc.func #[32, 32] #[4] false), 1, 8, [.nilFunc], false, [], []⟩
theorem tio50 : TIOk Tryz.prog (50, ti50) := ⟨by kernel_rfl, by kernel_rfl, by kernel_rfl, nofun, trivial⟩
def ti51 : TI := ⟨(TypeDesc.tuple #[24, 35]), 1, 0, [.tuple { toList := [.slice none 0 0, .int .i64 0] }], false, [], []⟩
theorem tio51 : TIOk Tryz.prog (51, ti51) := ⟨by kernel_rfl, by kernel_rfl, by kernel_rfl, nofun, trivial⟩
def ti52 : TI := ⟨(TypeDesc.func #[38, 24] #[24, 35] false), 1, 8, [.nilFunc], false, [], []⟩
theorem tio52 : TIOk Tryz.prog (52, ti52) := ⟨by kernel_rfl, by kernel_rfl, by kernel_rfl, nofun, trivial⟩
def ti53 : TI := ⟨(TypeDesc.func #[24, 24] #[4] false), 1, 8, [.nilFunc], false, [], []⟩
theorem tio53 : TIOk Tryz.prog (53, ti53) := ⟨by kernel_rfl, by kernel_rfl, by kernel_rfl, nofun, trivial⟩
def ti54 : TI := ⟨(TypeDesc.func #[83, 24] #[24, 35] false), 1, 8, [.nilFunc], false, [], []⟩
theorem tio54 : TIOk Tryz.prog (54, ti54) := ⟨by kernel_rfl, by kernel_rfl, by kernel_rfl, nofun, trivial⟩
def ti55 : TI := ⟨(TypeDesc.func #[5] #[3] false), 1, 8, [.nilFunc], false, [], []⟩
theorem tio55 : TIOk Tryz.prog (55, ti55) := ⟨by kernel_rfl, by kernel_rfl, by kernel_rfl, nofun, trivial⟩
def ti56 : TI := ⟨(TypeDesc.func #[9] #[4] false), 1, 8, [.nilFunc], false, [], []⟩
theorem tio56 : TIOk Tryz.prog (56, ti56) := ⟨by kernel_rfl, by kernel_rfl, by kernel_rfl, nofun, trivial⟩
def ti57 : TI := ⟨(TypeDesc.func #[83, 56, 3] #[24, 35] false), 1, 8, [.nilFunc], false, [], []⟩
theorem tio57 : TIOk Tryz.prog (57, ti57) := ⟨by kernel_rfl, by kernel_rfl, by kernel_rfl, nofun, trivial⟩
def ti58 : TI := ⟨(TypeDesc.func #[38, 9, 3] #[24, 35] false), 1, 8, [.nilFunc], false, [], []⟩
theorem tio58 : TIOk Tryz.prog (58, ti58) := ⟨by kernel_rfl, by kernel_rfl, by kernel_rfl, nofun, trivial⟩
def ti59 : TI := ⟨(TypeDesc.tuple #[9, 3, 35]), 1, 0, [.tuple { toList := [.string { data := #[] }, .int .i64 0, .int .i64 0] }], false, [], []⟩
theorem tio59 : TIOk Tryz.prog (59, ti59) := ⟨by kernel_rfl, by kernel_rfl, by kernel_rfl, nofun, trivial⟩
def ti60 : TI := ⟨(TypeDesc.func #[83, 24] #[9, 3, 35] false), 1, 8, [.nilFunc], false, [], []⟩
theorem tio60 : TIOk Tryz.prog (60, ti60) := ⟨by kernel_rfl, by kernel_rfl, by kernel_rfl, nofun, trivial⟩
def ti61 : TI := ⟨(TypeDesc.func #[29, 5, 3] #[4] false), 1, 8, [.nilFunc], false, [], []⟩
theorem tio61 : TIOk Tryz.prog (61, ti61) := ⟨by kernel_rfl, by kernel_rfl, by kernel_rfl, nofun, trivial⟩
def ti62 : TI := ⟨(TypeDesc.slice 66), 1, 24, [.slice none 0 0], false, [], []⟩
theorem tio62 : TIOk Tryz.prog (62, ti62) := ⟨by kernel_rfl, by kernel_rfl, by kernel_rfl, nofun, trivial⟩
def ti63 : TI := ⟨(TypeDesc.struct #[{ name := "Ops", type := 62, offset := 0, embedded := false, tag := "", pkgPath := "", byteOffset := 0 }]), 1, 24, [.slice none 0 0], true, [], []⟩
theorem tio63 : TIOk Tryz.prog (63, ti63) := ⟨by kernel_rfl, by kernel_rfl, by kernel_rfl, fun _ => ⟨by kernel_rfl, by kernel_rfl⟩, trivial⟩
def ti64 : TI := ⟨(TypeDesc.struct #[{ name := "Ops", type := 62, offset := 0, embedded := false, tag := "", pkgPath := "", byteOffset := 0 }]), 1, 24, [.slice none 0 0], true, [], []⟩
theorem tio64 : TIOk Tryz.prog (64, ti64) := ⟨by kernel_rfl, by kernel_rfl, by kernel_rfl, fun _ => ⟨by kernel_rfl, by kernel_rfl⟩, trivial⟩
def ti65 : TI := ⟨(TypeDesc.struct #[{ name := "Op", type := 3, offset := 0, embedded := false, tag := "", pkgPath := "", byteOffset := 0 }, { name := "Object", type := 3, offset := 1, embedded := false, tag := "", pkgPath := "", byteOffset := 8 }, { name := "Value", type := 2, offset := 2, embedded := false, tag := "", pkgPath := "", byteOffset := 16 }]), 3, 24, [.int .i64 0, .int .i64 0, .int .i64 0], true, [], []⟩
theorem tio65 : TIOk Tryz.prog (65, ti65) := ⟨by kernel_rfl, by kernel_rfl, by kernel_rfl, fun _ => ⟨by kernel_rfl, by kernel_rfl⟩, trivial⟩
def ti66 : TI := ⟨(TypeDesc.struct #[{ name := "Op", type := 3, offset := 0, embedded := false, tag := "", pkgPath := "", byteOffset := 0 }, { name := "Object", type := 3, offset := 1, embedded := false, tag := "", pkgPath := "", byteOffset := 8 }, { name := "Value", type := 2, offset := 2, embedded := false, tag := "", pkgPath := "", byteOffset := 16 }]), 3, 24, [.int .i64 0, .int .i64 0, .int .i64 0], true, [], []⟩
theorem tio66 : TIOk Tryz.prog (66, ti66) := ⟨by kernel_rfl, by kernel_rfl, by kernel_rfl, fun _ => ⟨by kernel_rfl, by kernel_rfl⟩, trivial⟩
def ti67 : TI := ⟨(TypeDesc.slice 2), 1, 24, [.slice none 0 0], false, [], []⟩
theorem tio67 : TIOk Tryz.prog (67, ti67) := ⟨by kernel_rfl, by kernel_rfl, by kernel_rfl, nofun, trivial⟩
def ti68 : TI := ⟨(TypeDesc.struct #[{ name := "Room", type := 3, offset := 0, embedded := false, tag := "", pkgPath := "", byteOffset := 0 }, { name := "Items", type := 67, offset := 1, embedded := false, tag := "", pkgPath := "", byteOffset := 8 }, { name := "Shut", type := 4, offset := 2, embedded := false, tag := "", pkgPath := "", byteOffset := 32 }]), 3, 40, [.int .i64 0, .slice none 0 0, .bool false], true, [], []⟩
theorem tio68 : TIOk Tryz.prog (68, ti68) := ⟨by kernel_rfl, by kernel_rfl, by kernel_rfl, fun _ => ⟨by kernel_rfl, by kernel_rfl⟩, trivial⟩
def ti69 : TI := ⟨(TypeDesc.struct #[{ name := "Room", type := 3, offset := 0, embedded := false, tag := "", pkgPath := "", byteOffset := 0 }, { name := "Items", type := 67, offset := 1, embedded := false, tag := "", pkgPath := "", byteOffset := 8 }, { name := "Shut", type := 4, offset := 2, embedded := false, tag := "", pkgPath := "", byteOffset := 32 }]), 3, 40, [.int .i64 0, .slice none 0 0, .bool false], true, [], []⟩
theorem tio69 : TIOk Tryz.prog (69, ti69) := ⟨by kernel_rfl, by kernel_rfl, by kernel_rfl, fun _ => ⟨by kernel_rfl, by kernel_rfl⟩, trivial⟩
def ti70 : TI := ⟨(TypeDesc.tuple #[39, 35]), 1, 0, [.tuple { toList := [.pointer none, .int .i64 0] }], false, [], []⟩
theorem tio70 : TIOk Tryz.prog (70, ti70) := ⟨by kernel_rfl, by kernel_rfl, by kernel_rfl, nofun, trivial⟩
def ti71 : TI := ⟨(TypeDesc.func #[26, 27] #[39, 35] false), 1, 8, [.nilFunc], false, [], []⟩
theorem tio71 : TIOk Tryz.prog (71, ti71) := ⟨by kernel_rfl, by kernel_rfl, by kernel_rfl, nofun, trivial⟩
def ti72 : TI := ⟨(TypeDesc.pointer 75), 1, 8, [.pointer none], false, [], [("Done", 125), ("Enabled", 126), ("Footprint", 127), ("Outcome", 128), ("Start", 129), ("Step", 130)]⟩
theorem tio72 : TIOk Tryz.prog (72, ti72) := ⟨by kernel_rfl, by kernel_rfl, by kernel_rfl, nofun, ⟨fun _ _ => by kernel_rfl, fun _ _ => by kernel_rfl, fun _ _ => by kernel_rfl, fun _ _ => by kernel_rfl, fun _ _ => by kernel_rfl, fun _ _ => by kernel_rfl, trivial⟩⟩
def ti73 : TI := ⟨(TypeDesc.array 3 3), 3, 24, [.int .i64 0, .int .i64 0, .int .i64 0], false, [], []⟩
theorem tio73 : TIOk Tryz.prog (73, ti73) := ⟨by kernel_rfl, by kernel_rfl, by kernel_rfl, nofun, trivial⟩
def ti74 : TI := ⟨(TypeDesc.struct #[{ name := "sum", type := 3, offset := 0, embedded := false, tag := "", pkgPath := "spillway/spillwaylaw33", byteOffset := 0 }, { name := "pc", type := 73, offset := 1, embedded := false, tag := "", pkgPath := "spillway/spillwaylaw33", byteOffset := 8 }, { name := "read", type := 73, offset := 4, embedded := false, tag := "", pkgPath := "spillway/spillwaylaw33", byteOffset := 32 }]), 7, 56, [.int .i64 0, .int .i64 0, .int .i64 0, .int .i64 0, .int .i64 0, .int .i64 0, .int .i64 0], true, [], []⟩
theorem tio74 : TIOk Tryz.prog (74, ti74) := ⟨by kernel_rfl, by kernel_rfl, by kernel_rfl, fun _ => ⟨by kernel_rfl, by kernel_rfl⟩, trivial⟩
def ti75 : TI := ⟨(TypeDesc.struct #[{ name := "sum", type := 3, offset := 0, embedded := false, tag := "", pkgPath := "spillway/spillwaylaw33", byteOffset := 0 }, { name := "pc", type := 73, offset := 1, embedded := false, tag := "", pkgPath := "spillway/spillwaylaw33", byteOffset := 8 }, { name := "read", type := 73, offset := 4, embedded := false, tag := "", pkgPath := "spillway/spillwaylaw33", byteOffset := 32 }]), 7, 56, [.int .i64 0, .int .i64 0, .int .i64 0, .int .i64 0, .int .i64 0, .int .i64 0, .int .i64 0], true, [], []⟩
theorem tio75 : TIOk Tryz.prog (75, ti75) := ⟨by kernel_rfl, by kernel_rfl, by kernel_rfl, fun _ => ⟨by kernel_rfl, by kernel_rfl⟩, trivial⟩
def ti76 : TI := ⟨(TypeDesc.func #[34, 34] #[4] false), 1, 8, [.nilFunc], false, [], []⟩
theorem tio76 : TIOk Tryz.prog (76, ti76) := ⟨by kernel_rfl, by kernel_rfl, by kernel_rfl, nofun, trivial⟩
def ti77 : TI := ⟨(TypeDesc.func #[3] #[35] false), 1, 8, [.nilFunc], false, [], []⟩
theorem tio77 : TIOk Tryz.prog (77, ti77) := ⟨by kernel_rfl, by kernel_rfl, by kernel_rfl, nofun, trivial⟩
def ti78 : TI := ⟨(TypeDesc.func #[38, 79] #[34] false), 1, 8, [.nilFunc], false, [], []⟩
theorem tio78 : TIOk Tryz.prog (78, ti78) := ⟨by kernel_rfl, by kernel_rfl, by kernel_rfl, nofun, trivial⟩
def ti79 : TI := ⟨(TypeDesc.pointer 81), 1, 8, [.pointer none], false, [], []⟩
theorem tio79 : TIOk Tryz.prog (79, ti79) := ⟨by kernel_rfl, by kernel_rfl, by kernel_rfl, nofun, trivial⟩
def ti80 : TI := ⟨(TypeDesc.struct #[{ name := "p", type := 38, offset := 0, embedded := false, tag := "", pkgPath := "spillway/spillwayref33", byteOffset := 0 }, { name := "most", type := 3, offset := 1, embedded := false, tag := "", pkgPath := "spillway/spillwayref33", byteOffset := 8 }, { name := "switches", type := 3, offset := 2, embedded := false, tag := "", pkgPath := "spillway/spillwayref33", byteOffset := 16 }, { name := "sleeps", type := 4, offset := 3, embedded := false, tag := "", pkgPath := "spillway/spillwayref33", byteOffset := 24 }, { name := "over", type := 4, offset := 4, embedded := false, tag := "", pkgPath := "spillway/spillwayref33", byteOffset := 25 }, { name := "asks", type := 4, offset := 5, embedded := false, tag := "", pkgPath := "spillway/spillwayref33", byteOffset := 26 }, { name := "wanted", type := 9, offset := 6, embedded := false, tag := "", pkgPath := "spillway/spillwayref33", byteOffset := 32 }, { name := "run", type := 24, offset := 7, embedded := false, tag := "", pkgPath := "spillway/spillwayref33", byteOffset := 48 }, { name := "found", type := 4, offset := 8, embedded := false, tag := "", pkgPath := "spillway/spillwayref33", byteOffset := 72 }, { name := "runs", type := 44, offset := 9, embedded := false, tag := "", pkgPath := "spillway/spillwayref33", byteOffset := 80 }, { name := "out", type := 34, offset := 10, embedded := false, tag := "", pkgPath := "spillway/spillwayref33", byteOffset := 104 }]), 14, 152, [.pointer none, .int .i64 0, .int .i64 0, .bool false, .bool false, .bool false, .string { data := #[] }, .slice none 0 0, .bool false, .slice none 0 0, .int .i64 0, .int .i64 0, .slice none 0 0, .bool false], true, [], []⟩
theorem tio80 : TIOk Tryz.prog (80, ti80) := ⟨by kernel_rfl, by kernel_rfl, by kernel_rfl, fun _ => ⟨by kernel_rfl, by kernel_rfl⟩, trivial⟩
def ti81 : TI := ⟨(TypeDesc.struct #[{ name := "p", type := 38, offset := 0, embedded := false, tag := "", pkgPath := "spillway/spillwayref33", byteOffset := 0 }, { name := "most", type := 3, offset := 1, embedded := false, tag := "", pkgPath := "spillway/spillwayref33", byteOffset := 8 }, { name := "switches", type := 3, offset := 2, embedded := false, tag := "", pkgPath := "spillway/spillwayref33", byteOffset := 16 }, { name := "sleeps", type := 4, offset := 3, embedded := false, tag := "", pkgPath := "spillway/spillwayref33", byteOffset := 24 }, { name := "over", type := 4, offset := 4, embedded := false, tag := "", pkgPath := "spillway/spillwayref33", byteOffset := 25 }, { name := "asks", type := 4, offset := 5, embedded := false, tag := "", pkgPath := "spillway/spillwayref33", byteOffset := 26 }, { name := "wanted", type := 9, offset := 6, embedded := false, tag := "", pkgPath := "spillway/spillwayref33", byteOffset := 32 }, { name := "run", type := 24, offset := 7, embedded := false, tag := "", pkgPath := "spillway/spillwayref33", byteOffset := 48 }, { name := "found", type := 4, offset := 8, embedded := false, tag := "", pkgPath := "spillway/spillwayref33", byteOffset := 72 }, { name := "runs", type := 44, offset := 9, embedded := false, tag := "", pkgPath := "spillway/spillwayref33", byteOffset := 80 }, { name := "out", type := 34, offset := 10, embedded := false, tag := "", pkgPath := "spillway/spillwayref33", byteOffset := 104 }]), 14, 152, [.pointer none, .int .i64 0, .int .i64 0, .bool false, .bool false, .bool false, .string { data := #[] }, .slice none 0 0, .bool false, .slice none 0 0, .int .i64 0, .int .i64 0, .slice none 0 0, .bool false], true, [], []⟩
theorem tio81 : TIOk Tryz.prog (81, ti81) := ⟨by kernel_rfl, by kernel_rfl, by kernel_rfl, fun _ => ⟨by kernel_rfl, by kernel_rfl⟩, trivial⟩
def ti82 : TI := ⟨(TypeDesc.interface #[("Done", 31), ("Enabled", 99), ("Footprint", 92), ("Outcome", 109), ("Start", 1), ("Step", 95)]), 1, 16, [.nilIface], false, [], []⟩
theorem tio82 : TIOk Tryz.prog (82, ti82) := ⟨by kernel_rfl, by kernel_rfl, by kernel_rfl, nofun, trivial⟩
def ti83 : TI := ⟨(TypeDesc.interface #[("Done", 31), ("Enabled", 99), ("Footprint", 92), ("Outcome", 109), ("Start", 1), ("Step", 95)]), 1, 16, [.nilIface], false, [], []⟩
theorem tio83 : TIOk Tryz.prog (83, ti83) := ⟨by kernel_rfl, by kernel_rfl, by kernel_rfl, nofun, trivial⟩
def ti84 : TI := ⟨(TypeDesc.func #[83, 3] #[35] false), 1, 8, [.nilFunc], false, [], []⟩
theorem tio84 : TIOk Tryz.prog (84, ti84) := ⟨by kernel_rfl, by kernel_rfl, by kernel_rfl, nofun, trivial⟩
def ti85 : TI := ⟨(TypeDesc.func #[83, 88] #[34] false), 1, 8, [.nilFunc], false, [], []⟩
theorem tio85 : TIOk Tryz.prog (85, ti85) := ⟨by kernel_rfl, by kernel_rfl, by kernel_rfl, nofun, trivial⟩
def ti86 : TI := ⟨(TypeDesc.func #[9, 24] #[4] false), 1, 8, [.nilFunc], false, [], []⟩
theorem tio86 : TIOk Tryz.prog (86, ti86) := ⟨by kernel_rfl, by kernel_rfl, by kernel_rfl, nofun, trivial⟩
def ti87 : TI := ⟨(TypeDesc.struct #[{ name := "most", type := 3, offset := 0, embedded := false, tag := "", pkgPath := "spillway/explore", byteOffset := 0 }, { name := "switches", type := 3, offset := 1, embedded := false, tag := "", pkgPath := "spillway/explore", byteOffset := 8 }, { name := "sleeps", type := 4, offset := 2, embedded := false, tag := "", pkgPath := "spillway/explore", byteOffset := 16 }, { name := "tell", type := 86, offset := 3, embedded := false, tag := "", pkgPath := "spillway/explore", byteOffset := 24 }]), 4, 32, [.int .i64 0, .int .i64 0, .bool false, .nilFunc], true, [], []⟩
theorem tio87 : TIOk Tryz.prog (87, ti87) := ⟨by kernel_rfl, by kernel_rfl, by kernel_rfl, fun _ => ⟨by kernel_rfl, by kernel_rfl⟩, trivial⟩
def ti88 : TI := ⟨(TypeDesc.struct #[{ name := "most", type := 3, offset := 0, embedded := false, tag := "", pkgPath := "spillway/explore", byteOffset := 0 }, { name := "switches", type := 3, offset := 1, embedded := false, tag := "", pkgPath := "spillway/explore", byteOffset := 8 }, { name := "sleeps", type := 4, offset := 2, embedded := false, tag := "", pkgPath := "spillway/explore", byteOffset := 16 }, { name := "tell", type := 86, offset := 3, embedded := false, tag := "", pkgPath := "spillway/explore", byteOffset := 24 }]), 4, 32, [.int .i64 0, .int .i64 0, .bool false, .nilFunc], true, [], []⟩
theorem tio88 : TIOk Tryz.prog (88, ti88) := ⟨by kernel_rfl, by kernel_rfl, by kernel_rfl, fun _ => ⟨by kernel_rfl, by kernel_rfl⟩, trivial⟩
def ti89 : TI := ⟨(TypeDesc.func #[38, 24] #[9, 3, 35] false), 1, 8, [.nilFunc], false, [], []⟩
theorem tio89 : TIOk Tryz.prog (89, ti89) := ⟨by kernel_rfl, by kernel_rfl, by kernel_rfl, nofun, trivial⟩
def ti90 : TI := ⟨(TypeDesc.slice 94), 1, 24, [.slice none 0 0], false, [], []⟩
theorem tio90 : TIOk Tryz.prog (90, ti90) := ⟨by kernel_rfl, by kernel_rfl, by kernel_rfl, nofun, trivial⟩
def ti91 : TI := ⟨(TypeDesc.slice 102), 1, 24, [.slice none 0 0], false, [], []⟩
theorem tio91 : TIOk Tryz.prog (91, ti91) := ⟨by kernel_rfl, by kernel_rfl, by kernel_rfl, nofun, trivial⟩
def ti92 : TI := ⟨(TypeDesc.func #[3] #[91] false), 1, 8, [.nilFunc], false, [], []⟩
theorem tio92 : TIOk Tryz.prog (92, ti92) := ⟨by kernel_rfl, by kernel_rfl, by kernel_rfl, nofun, trivial⟩
def ti93 : TI := ⟨(TypeDesc.struct #[{ name := "task", type := 3, offset := 0, embedded := false, tag := "", pkgPath := "spillway/spillwayref33", byteOffset := 0 }, { name := "uses", type := 91, offset := 1, embedded := false, tag := "", pkgPath := "spillway/spillwayref33", byteOffset := 8 }]), 2, 32, [.int .i64 0, .slice none 0 0], true, [], []⟩
theorem tio93 : TIOk Tryz.prog (93, ti93) := ⟨by kernel_rfl, by kernel_rfl, by kernel_rfl, fun _ => ⟨by kernel_rfl, by kernel_rfl⟩, trivial⟩
def ti94 : TI := ⟨(TypeDesc.struct #[{ name := "task", type := 3, offset := 0, embedded := false, tag := "", pkgPath := "spillway/spillwayref33", byteOffset := 0 }, { name := "uses", type := 91, offset := 1, embedded := false, tag := "", pkgPath := "spillway/spillwayref33", byteOffset := 8 }]), 2, 32, [.int .i64 0, .slice none 0 0], true, [], []⟩
theorem tio94 : TIOk Tryz.prog (94, ti94) := ⟨by kernel_rfl, by kernel_rfl, by kernel_rfl, fun _ => ⟨by kernel_rfl, by kernel_rfl⟩, trivial⟩
def ti95 : TI := ⟨(TypeDesc.func #[3] #[] false), 1, 8, [.nilFunc], false, [], []⟩
theorem tio95 : TIOk Tryz.prog (95, ti95) := ⟨by kernel_rfl, by kernel_rfl, by kernel_rfl, nofun, trivial⟩
def ti96 : TI := ⟨(TypeDesc.func #[91, 91] #[4] false), 1, 8, [.nilFunc], false, [], []⟩
theorem tio96 : TIOk Tryz.prog (96, ti96) := ⟨by kernel_rfl, by kernel_rfl, by kernel_rfl, nofun, trivial⟩
def ti97 : TI := ⟨(TypeDesc.slice 104), 1, 24, [.slice none 0 0], false, [], []⟩
theorem tio97 : TIOk Tryz.prog (97, ti97) := ⟨by kernel_rfl, by kernel_rfl, by kernel_rfl, nofun, trivial⟩
def ti98 : TI := ⟨(TypeDesc.func #[24, 3] #[4] false), 1, 8, [.nilFunc], false, [], []⟩
theorem tio98 : TIOk Tryz.prog (98, ti98) := ⟨by kernel_rfl, by kernel_rfl, by kernel_rfl, nofun, trivial⟩
def ti99 : TI := ⟨(TypeDesc.func #[] #[24] false), 1, 8, [.nilFunc], false, [], []⟩
theorem tio99 : TIOk Tryz.prog (99, ti99) := ⟨by kernel_rfl, by kernel_rfl, by kernel_rfl, nofun, trivial⟩
def ti100 : TI := ⟨(TypeDesc.func #[91] #[91] false), 1, 8, [.nilFunc], false, [], []⟩
theorem tio100 : TIOk Tryz.prog (100, ti100) := ⟨by kernel_rfl, by kernel_rfl, by kernel_rfl, nofun, trivial⟩
def ti101 : TI := ⟨(TypeDesc.struct #[{ name := "Object", type := 2, offset := 0, embedded := false, tag := "", pkgPath := "", byteOffset := 0 }, { name := "Write", type := 4, offset := 1, embedded := false, tag := "", pkgPath := "", byteOffset := 8 }]), 2, 16, [.int .i64 0, .bool false], true, [], []⟩
theorem tio101 : TIOk Tryz.prog (101, ti101) := ⟨by kernel_rfl, by kernel_rfl, by kernel_rfl, fun _ => ⟨by kernel_rfl, by kernel_rfl⟩, trivial⟩
def ti102 : TI := ⟨(TypeDesc.struct #[{ name := "Object", type := 2, offset := 0, embedded := false, tag := "", pkgPath := "", byteOffset := 0 }, { name := "Write", type := 4, offset := 1, embedded := false, tag := "", pkgPath := "", byteOffset := 8 }]), 2, 16, [.int .i64 0, .bool false], true, [], []⟩
theorem tio102 : TIOk Tryz.prog (102, ti102) := ⟨by kernel_rfl, by kernel_rfl, by kernel_rfl, fun _ => ⟨by kernel_rfl, by kernel_rfl⟩, trivial⟩
def ti103 : TI := ⟨(TypeDesc.struct #[{ name := "task", type := 3, offset := 0, embedded := false, tag := "", pkgPath := "spillway/explore", byteOffset := 0 }, { name := "uses", type := 91, offset := 1, embedded := false, tag := "", pkgPath := "spillway/explore", byteOffset := 8 }]), 2, 32, [.int .i64 0, .slice none 0 0], true, [], []⟩
theorem tio103 : TIOk Tryz.prog (103, ti103) := ⟨by kernel_rfl, by kernel_rfl, by kernel_rfl, fun _ => ⟨by kernel_rfl, by kernel_rfl⟩, trivial⟩
def ti104 : TI := ⟨(TypeDesc.struct #[{ name := "task", type := 3, offset := 0, embedded := false, tag := "", pkgPath := "spillway/explore", byteOffset := 0 }, { name := "uses", type := 91, offset := 1, embedded := false, tag := "", pkgPath := "spillway/explore", byteOffset := 8 }]), 2, 32, [.int .i64 0, .slice none 0 0], true, [], []⟩
theorem tio104 : TIOk Tryz.prog (104, ti104) := ⟨by kernel_rfl, by kernel_rfl, by kernel_rfl, fun _ => ⟨by kernel_rfl, by kernel_rfl⟩, trivial⟩
def ti105 : TI := ⟨(TypeDesc.func #[97, 106] #[4] false), 1, 8, [.nilFunc], false, [], []⟩
theorem tio105 : TIOk Tryz.prog (105, ti105) := ⟨by kernel_rfl, by kernel_rfl, by kernel_rfl, nofun, trivial⟩
def ti106 : TI := ⟨(TypeDesc.func #[104] #[4] false), 1, 8, [.nilFunc], false, [], []⟩
theorem tio106 : TIOk Tryz.prog (106, ti106) := ⟨by kernel_rfl, by kernel_rfl, by kernel_rfl, nofun, trivial⟩
def ti107 : TI := ⟨(TypeDesc.func #[97, 3, 3] #[97] false), 1, 8, [.nilFunc], false, [], []⟩
theorem tio107 : TIOk Tryz.prog (107, ti107) := ⟨by kernel_rfl, by kernel_rfl, by kernel_rfl, nofun, trivial⟩
def ti108 : TI := ⟨(TypeDesc.func #[24] #[24] false), 1, 8, [.nilFunc], false, [], []⟩
theorem tio108 : TIOk Tryz.prog (108, ti108) := ⟨by kernel_rfl, by kernel_rfl, by kernel_rfl, nofun, trivial⟩
def ti109 : TI := ⟨(TypeDesc.func #[] #[9] false), 1, 8, [.nilFunc], false, [], []⟩
theorem tio109 : TIOk Tryz.prog (109, ti109) := ⟨by kernel_rfl, by kernel_rfl, by kernel_rfl, nofun, trivial⟩
def ti110 : TI := ⟨(TypeDesc.func #[83, 3, 3] #[34, 35] false), 1, 8, [.nilFunc], false, [], []⟩
theorem tio110 : TIOk Tryz.prog (110, ti110) := ⟨by kernel_rfl, by kernel_rfl, by kernel_rfl, nofun, trivial⟩
def ti111 : TI := ⟨(TypeDesc.func #[26] #[35] false), 1, 8, [.nilFunc], false, [], []⟩
theorem tio111 : TIOk Tryz.prog (111, ti111) := ⟨by kernel_rfl, by kernel_rfl, by kernel_rfl, nofun, trivial⟩
def ti112 : TI := ⟨(TypeDesc.func #[3, 3, 3] #[4] false), 1, 8, [.nilFunc], false, [], []⟩
theorem tio112 : TIOk Tryz.prog (112, ti112) := ⟨by kernel_rfl, by kernel_rfl, by kernel_rfl, nofun, trivial⟩
def ti113 : TI := ⟨(TypeDesc.slice 149), 1, 24, [.slice none 0 0], false, [], []⟩
theorem tio113 : TIOk Tryz.prog (113, ti113) := ⟨by kernel_rfl, by kernel_rfl, by kernel_rfl, nofun, trivial⟩
def ti114 : TI := ⟨(TypeDesc.struct #[{ name := "S", type := 26, offset := 0, embedded := false, tag := "", pkgPath := "", byteOffset := 0 }, { name := "Now", type := 2, offset := 3, embedded := false, tag := "", pkgPath := "", byteOffset := 72 }, { name := "Programs", type := 27, offset := 4, embedded := false, tag := "", pkgPath := "", byteOffset := 80 }, { name := "Records", type := 113, offset := 5, embedded := false, tag := "", pkgPath := "", byteOffset := 104 }]), 6, 128, [.slice none 0 0, .slice none 0 0, .slice none 0 0, .int .i64 0, .slice none 0 0, .slice none 0 0], true, [], []⟩
theorem tio114 : TIOk Tryz.prog (114, ti114) := ⟨by kernel_rfl, by kernel_rfl, by kernel_rfl, fun _ => ⟨by kernel_rfl, by kernel_rfl⟩, trivial⟩
def ti115 : TI := ⟨(TypeDesc.struct #[{ name := "S", type := 26, offset := 0, embedded := false, tag := "", pkgPath := "", byteOffset := 0 }, { name := "Now", type := 2, offset := 3, embedded := false, tag := "", pkgPath := "", byteOffset := 72 }, { name := "Programs", type := 27, offset := 4, embedded := false, tag := "", pkgPath := "", byteOffset := 80 }, { name := "Records", type := 113, offset := 5, embedded := false, tag := "", pkgPath := "", byteOffset := 104 }]), 6, 128, [.slice none 0 0, .slice none 0 0, .slice none 0 0, .int .i64 0, .slice none 0 0, .slice none 0 0], true, [], []⟩
theorem tio115 : TIOk Tryz.prog (115, ti115) := ⟨by kernel_rfl, by kernel_rfl, by kernel_rfl, fun _ => ⟨by kernel_rfl, by kernel_rfl⟩, trivial⟩
def ti116 : TI := ⟨(TypeDesc.func #[24, 90, 3] #[] false), 1, 8, [.nilFunc], false, [], []⟩
theorem tio116 : TIOk Tryz.prog (116, ti116) := ⟨by kernel_rfl, by kernel_rfl, by kernel_rfl, nofun, trivial⟩
def ti117 : TI := ⟨(TypeDesc.pointer 120), 1, 8, [.pointer none], false, [], []⟩
theorem tio117 : TIOk Tryz.prog (117, ti117) := ⟨by kernel_rfl, by kernel_rfl, by kernel_rfl, nofun, trivial⟩
def ti118 : TI := ⟨(TypeDesc.map 9 4), 1, 8, [.map none], false, [], []⟩
theorem tio118 : TIOk Tryz.prog (118, ti118) := ⟨by kernel_rfl, by kernel_rfl, by kernel_rfl, nofun, trivial⟩
def ti119 : TI := ⟨(TypeDesc.struct #[{ name := "plan", type := 88, offset := 0, embedded := true, tag := "", pkgPath := "spillway/explore", byteOffset := 0 }, { name := "player", type := 83, offset := 4, embedded := false, tag := "", pkgPath := "spillway/explore", byteOffset := 32 }, { name := "picks", type := 24, offset := 5, embedded := false, tag := "", pkgPath := "spillway/explore", byteOffset := 48 }, { name := "out", type := 34, offset := 6, embedded := false, tag := "", pkgPath := "spillway/explore", byteOffset := 72 }, { name := "outcomes", type := 118, offset := 10, embedded := false, tag := "", pkgPath := "spillway/explore", byteOffset := 120 }, { name := "enough", type := 4, offset := 11, embedded := false, tag := "", pkgPath := "spillway/explore", byteOffset := 128 }]), 12, 136, [.int .i64 0, .int .i64 0, .bool false, .nilFunc, .nilIface, .slice none 0 0, .int .i64 0, .int .i64 0, .slice none 0 0, .bool false, .map none, .bool false], false, [], []⟩
theorem tio119 : TIOk Tryz.prog (119, ti119) := ⟨by kernel_rfl, by kernel_rfl, by kernel_rfl, nofun, trivial⟩
def ti120 : TI := ⟨(TypeDesc.struct #[{ name := "plan", type := 88, offset := 0, embedded := true, tag := "", pkgPath := "spillway/explore", byteOffset := 0 }, { name := "player", type := 83, offset := 4, embedded := false, tag := "", pkgPath := "spillway/explore", byteOffset := 32 }, { name := "picks", type := 24, offset := 5, embedded := false, tag := "", pkgPath := "spillway/explore", byteOffset := 48 }, { name := "out", type := 34, offset := 6, embedded := false, tag := "", pkgPath := "spillway/explore", byteOffset := 72 }, { name := "outcomes", type := 118, offset := 10, embedded := false, tag := "", pkgPath := "spillway/explore", byteOffset := 120 }, { name := "enough", type := 4, offset := 11, embedded := false, tag := "", pkgPath := "spillway/explore", byteOffset := 128 }]), 12, 136, [.int .i64 0, .int .i64 0, .bool false, .nilFunc, .nilIface, .slice none 0 0, .int .i64 0, .int .i64 0, .slice none 0 0, .bool false, .map none, .bool false], false, [], []⟩
theorem tio120 : TIOk Tryz.prog (120, ti120) := ⟨by kernel_rfl, by kernel_rfl, by kernel_rfl, nofun, trivial⟩
def ti121 : TI := ⟨(TypeDesc.func #[97, 3] #[] false), 1, 8, [.nilFunc], false, [], []⟩
theorem tio121 : TIOk Tryz.prog (121, ti121) := ⟨by kernel_rfl, by kernel_rfl, by kernel_rfl, nofun, trivial⟩
def ti122 : TI := ⟨(TypeDesc.func #[4] #[] false), 1, 8, [.nilFunc], false, [], []⟩
theorem tio122 : TIOk Tryz.prog (122, ti122) := ⟨by kernel_rfl, by kernel_rfl, by kernel_rfl, nofun, trivial⟩
def ti123 : TI := ⟨(TypeDesc.func #[24] #[3] false), 1, 8, [.nilFunc], false, [], []⟩
theorem tio123 : TIOk Tryz.prog (123, ti123) := ⟨by kernel_rfl, by kernel_rfl, by kernel_rfl, nofun, trivial⟩
def ti124 : TI := ⟨(TypeDesc.func #[97] #[97] false), 1, 8, [.nilFunc], false, [], []⟩
theorem tio124 : TIOk Tryz.prog (124, ti124) := ⟨by kernel_rfl, by kernel_rfl, by kernel_rfl, nofun, trivial⟩
def ti125 : TI := ⟨(TypeDesc.func #[32] #[] false), 1, 8, [.nilFunc], false, [], []⟩
theorem tio125 : TIOk Tryz.prog (125, ti125) := ⟨by kernel_rfl, by kernel_rfl, by kernel_rfl, nofun, trivial⟩
def ti126 : TI := ⟨(TypeDesc.func #[26] #[26] false), 1, 8, [.nilFunc], false, [], []⟩
theorem tio126 : TIOk Tryz.prog (126, ti126) := ⟨by kernel_rfl, by kernel_rfl, by kernel_rfl, nofun, trivial⟩
def ti127 : TI := ⟨(TypeDesc.struct #[{ name := "Id", type := 3, offset := 0, embedded := false, tag := "", pkgPath := "", byteOffset := 0 }, { name := "Kind", type := 3, offset := 1, embedded := false, tag := "", pkgPath := "", byteOffset := 8 }, { name := "Pc", type := 3, offset := 2, embedded := false, tag := "", pkgPath := "", byteOffset := 16 }, { name := "A", type := 2, offset := 3, embedded := false, tag := "", pkgPath := "", byteOffset := 24 }, { name := "B", type := 2, offset := 4, embedded := false, tag := "", pkgPath := "", byteOffset := 32 }, { name := "C", type := 2, offset := 5, embedded := false, tag := "", pkgPath := "", byteOffset := 40 }, { name := "D", type := 2, offset := 6, embedded := false, tag := "", pkgPath := "", byteOffset := 48 }]), 7, 56, [.int .i64 0, .int .i64 0, .int .i64 0, .int .i64 0, .int .i64 0, .int .i64 0, .int .i64 0], true, [], []⟩
theorem tio127 : TIOk Tryz.prog (127, ti127) := ⟨by kernel_rfl, by kernel_rfl, by kernel_rfl, fun _ => ⟨by kernel_rfl, by kernel_rfl⟩, trivial⟩
def ti128 : TI := ⟨(TypeDesc.struct #[{ name := "Id", type := 3, offset := 0, embedded := false, tag := "", pkgPath := "", byteOffset := 0 }, { name := "Kind", type := 3, offset := 1, embedded := false, tag := "", pkgPath := "", byteOffset := 8 }, { name := "Pc", type := 3, offset := 2, embedded := false, tag := "", pkgPath := "", byteOffset := 16 }, { name := "A", type := 2, offset := 3, embedded := false, tag := "", pkgPath := "", byteOffset := 24 }, { name := "B", type := 2, offset := 4, embedded := false, tag := "", pkgPath := "", byteOffset := 32 }, { name := "C", type := 2, offset := 5, embedded := false, tag := "", pkgPath := "", byteOffset := 40 }, { name := "D", type := 2, offset := 6, embedded := false, tag := "", pkgPath := "", byteOffset := 48 }]), 7, 56, [.int .i64 0, .int .i64 0, .int .i64 0, .int .i64 0, .int .i64 0, .int .i64 0, .int .i64 0], true, [], []⟩
theorem tio128 : TIOk Tryz.prog (128, ti128) := ⟨by kernel_rfl, by kernel_rfl, by kernel_rfl, fun _ => ⟨by kernel_rfl, by kernel_rfl⟩, trivial⟩
def ti129 : TI := ⟨(TypeDesc.struct #[{ name := "Kind", type := 3, offset := 0, embedded := false, tag := "", pkgPath := "", byteOffset := 0 }, { name := "Object", type := 2, offset := 1, embedded := false, tag := "", pkgPath := "", byteOffset := 8 }, { name := "Until", type := 2, offset := 2, embedded := false, tag := "", pkgPath := "", byteOffset := 16 }]), 3, 24, [.int .i64 0, .int .i64 0, .int .i64 0], true, [], []⟩
theorem tio129 : TIOk Tryz.prog (129, ti129) := ⟨by kernel_rfl, by kernel_rfl, by kernel_rfl, fun _ => ⟨by kernel_rfl, by kernel_rfl⟩, trivial⟩
def ti130 : TI := ⟨(TypeDesc.struct #[{ name := "Kind", type := 3, offset := 0, embedded := false, tag := "", pkgPath := "", byteOffset := 0 }, { name := "Object", type := 2, offset := 1, embedded := false, tag := "", pkgPath := "", byteOffset := 8 }, { name := "Until", type := 2, offset := 2, embedded := false, tag := "", pkgPath := "", byteOffset := 16 }]), 3, 24, [.int .i64 0, .int .i64 0, .int .i64 0], true, [], []⟩
theorem tio130 : TIOk Tryz.prog (130, ti130) := ⟨by kernel_rfl, by kernel_rfl, by kernel_rfl, fun _ => ⟨by kernel_rfl, by kernel_rfl⟩, trivial⟩
def ti131 : TI := ⟨(TypeDesc.tuple #[128, 130, 40]), 1, 0, [.tuple { toList := [.agg { toList := [.int .i64 0, .int .i64 0, .int .i64 0, .int .i64 0, .int .i64 0, .int .i64 0, .int .i64 0] }, .agg { toList := [.int .i64 0, .int .i64 0, .int .i64 0] }, .slice none 0 0] }], false, [], []⟩
theorem tio131 : TIOk Tryz.prog (131, ti131) := ⟨by kernel_rfl, by kernel_rfl, by kernel_rfl, nofun, trivial⟩
def ti132 : TI := ⟨(TypeDesc.func #[128] #[128, 130, 40] false), 1, 8, [.nilFunc], false, [], []⟩
theorem tio132 : TIOk Tryz.prog (132, ti132) := ⟨by kernel_rfl, by kernel_rfl, by kernel_rfl, nofun, trivial⟩
def ti133 : TI := ⟨(TypeDesc.func #[66] #[91] false), 1, 8, [.nilFunc], false, [], []⟩
theorem tio133 : TIOk Tryz.prog (133, ti133) := ⟨by kernel_rfl, by kernel_rfl, by kernel_rfl, nofun, trivial⟩
def ti134 : TI := ⟨(TypeDesc.func #[24, 3] #[3] false), 1, 8, [.nilFunc], false, [], []⟩
theorem tio134 : TIOk Tryz.prog (134, ti134) := ⟨by kernel_rfl, by kernel_rfl, by kernel_rfl, nofun, trivial⟩
def ti135 : TI := ⟨(TypeDesc.func #[97, 106] #[3] false), 1, 8, [.nilFunc], false, [], []⟩
theorem tio135 : TIOk Tryz.prog (135, ti135) := ⟨by kernel_rfl, by kernel_rfl, by kernel_rfl, nofun, trivial⟩
def ti136 : TI := ⟨(TypeDesc.func #[91, 137] #[4] false), 1, 8, [.nilFunc], false, [], []⟩
theorem tio136 : TIOk Tryz.prog (136, ti136) := ⟨by kernel_rfl, by kernel_rfl, by kernel_rfl, nofun, trivial⟩
def ti137 : TI := ⟨(TypeDesc.func #[102] #[4] false), 1, 8, [.nilFunc], false, [], []⟩
theorem tio137 : TIOk Tryz.prog (137, ti137) := ⟨by kernel_rfl, by kernel_rfl, by kernel_rfl, nofun, trivial⟩
def ti138 : TI := ⟨(TypeDesc.func #[26] #[4] false), 1, 8, [.nilFunc], false, [], []⟩
theorem tio138 : TIOk Tryz.prog (138, ti138) := ⟨by kernel_rfl, by kernel_rfl, by kernel_rfl, nofun, trivial⟩
def ti139 : TI := ⟨(TypeDesc.struct #[{ name := "Holder", type := 3, offset := 0, embedded := false, tag := "", pkgPath := "", byteOffset := 0 }, { name := "Readers", type := 24, offset := 1, embedded := false, tag := "", pkgPath := "", byteOffset := 8 }]), 2, 32, [.int .i64 0, .slice none 0 0], true, [], []⟩
theorem tio139 : TIOk Tryz.prog (139, ti139) := ⟨by kernel_rfl, by kernel_rfl, by kernel_rfl, fun _ => ⟨by kernel_rfl, by kernel_rfl⟩, trivial⟩
def ti140 : TI := ⟨(TypeDesc.struct #[{ name := "Holder", type := 3, offset := 0, embedded := false, tag := "", pkgPath := "", byteOffset := 0 }, { name := "Readers", type := 24, offset := 1, embedded := false, tag := "", pkgPath := "", byteOffset := 8 }]), 2, 32, [.int .i64 0, .slice none 0 0], true, [], []⟩
theorem tio140 : TIOk Tryz.prog (140, ti140) := ⟨by kernel_rfl, by kernel_rfl, by kernel_rfl, fun _ => ⟨by kernel_rfl, by kernel_rfl⟩, trivial⟩
def ti141 : TI := ⟨(TypeDesc.func #[38, 24] #[] false), 1, 8, [.nilFunc], false, [], []⟩
theorem tio141 : TIOk Tryz.prog (141, ti141) := ⟨by kernel_rfl, by kernel_rfl, by kernel_rfl, nofun, trivial⟩
def ti142 : TI := ⟨(TypeDesc.func #[24, 4] #[] false), 1, 8, [.nilFunc], false, [], []⟩
theorem tio142 : TIOk Tryz.prog (142, ti142) := ⟨by kernel_rfl, by kernel_rfl, by kernel_rfl, nofun, trivial⟩
def ti143 : TI := ⟨(TypeDesc.func #[90, 3] #[4] false), 1, 8, [.nilFunc], false, [], []⟩
theorem tio143 : TIOk Tryz.prog (143, ti143) := ⟨by kernel_rfl, by kernel_rfl, by kernel_rfl, nofun, trivial⟩
def ti144 : TI := ⟨(TypeDesc.func #[32, 3, 3, 3] #[] false), 1, 8, [.nilFunc], false, [], []⟩
theorem tio144 : TIOk Tryz.prog (144, ti144) := ⟨by kernel_rfl, by kernel_rfl, by kernel_rfl, nofun, trivial⟩
def ti145 : TI := ⟨(TypeDesc.func #[146] #[3] false), 1, 8, [.nilFunc], false, [], []⟩
theorem tio145 : TIOk Tryz.prog (145, ti145) := ⟨by kernel_rfl, by kernel_rfl, by kernel_rfl, nofun, trivial⟩
def ti146 : TI := ⟨(TypeDesc.int IntKind.u64), 1, 8, [.int .u64 0], false, [], []⟩
theorem tio146 : TIOk Tryz.prog (146, ti146) := ⟨by kernel_rfl, by kernel_rfl, by kernel_rfl, nofun, trivial⟩
def ti147 : TI := ⟨(TypeDesc.func #[128, 130] #[4] false), 1, 8, [.nilFunc], false, [], []⟩
theorem tio147 : TIOk Tryz.prog (147, ti147) := ⟨by kernel_rfl, by kernel_rfl, by kernel_rfl, nofun, trivial⟩
def ti148 : TI := ⟨(TypeDesc.struct #[{ name := "Task", type := 3, offset := 0, embedded := false, tag := "", pkgPath := "", byteOffset := 0 }, { name := "Value", type := 2, offset := 1, embedded := false, tag := "", pkgPath := "", byteOffset := 8 }, { name := "Err", type := 35, offset := 2, embedded := false, tag := "", pkgPath := "", byteOffset := 16 }]), 3, 24, [.int .i64 0, .int .i64 0, .int .i64 0], true, [], []⟩
theorem tio148 : TIOk Tryz.prog (148, ti148) := ⟨by kernel_rfl, by kernel_rfl, by kernel_rfl, fun _ => ⟨by kernel_rfl, by kernel_rfl⟩, trivial⟩
def ti149 : TI := ⟨(TypeDesc.struct #[{ name := "Task", type := 3, offset := 0, embedded := false, tag := "", pkgPath := "", byteOffset := 0 }, { name := "Value", type := 2, offset := 1, embedded := false, tag := "", pkgPath := "", byteOffset := 8 }, { name := "Err", type := 35, offset := 2, embedded := false, tag := "", pkgPath := "", byteOffset := 16 }]), 3, 24, [.int .i64 0, .int .i64 0, .int .i64 0], true, [], []⟩
theorem tio149 : TIOk Tryz.prog (149, ti149) := ⟨by kernel_rfl, by kernel_rfl, by kernel_rfl, fun _ => ⟨by kernel_rfl, by kernel_rfl⟩, trivial⟩
def ti150 : TI := ⟨(TypeDesc.func #[2] #[9] false), 1, 8, [.nilFunc], false, [], []⟩
theorem tio150 : TIOk Tryz.prog (150, ti150) := ⟨by kernel_rfl, by kernel_rfl, by kernel_rfl, nofun, trivial⟩
def ti151 : TI := ⟨(TypeDesc.func #[66] #[130] false), 1, 8, [.nilFunc], false, [], []⟩
theorem tio151 : TIOk Tryz.prog (151, ti151) := ⟨by kernel_rfl, by kernel_rfl, by kernel_rfl, nofun, trivial⟩
def ti152 : TI := ⟨(TypeDesc.tuple #[40, 35]), 1, 0, [.tuple { toList := [.slice none 0 0, .int .i64 0] }], false, [], []⟩
theorem tio152 : TIOk Tryz.prog (152, ti152) := ⟨by kernel_rfl, by kernel_rfl, by kernel_rfl, nofun, trivial⟩
def ti153 : TI := ⟨(TypeDesc.func #[3, 66] #[40, 35] false), 1, 8, [.nilFunc], false, [], []⟩
theorem tio153 : TIOk Tryz.prog (153, ti153) := ⟨by kernel_rfl, by kernel_rfl, by kernel_rfl, nofun, trivial⟩
def ti154 : TI := ⟨(TypeDesc.func #[91, 137] #[3] false), 1, 8, [.nilFunc], false, [], []⟩
theorem tio154 : TIOk Tryz.prog (154, ti154) := ⟨by kernel_rfl, by kernel_rfl, by kernel_rfl, nofun, trivial⟩
def ti155 : TI := ⟨(TypeDesc.func #[9] #[] false), 1, 8, [.nilFunc], false, [], []⟩
theorem tio155 : TIOk Tryz.prog (155, ti155) := ⟨by kernel_rfl, by kernel_rfl, by kernel_rfl, nofun, trivial⟩
def ti156 : TI := ⟨(TypeDesc.func #[32, 3, 3] #[] false), 1, 8, [.nilFunc], false, [], []⟩
theorem tio156 : TIOk Tryz.prog (156, ti156) := ⟨by kernel_rfl, by kernel_rfl, by kernel_rfl, nofun, trivial⟩
def ti157 : TI := ⟨(TypeDesc.int IntKind.i64), 1, 8, [.int .i64 0], false, [], []⟩
theorem tio157 : TIOk Tryz.prog (157, ti157) := ⟨by kernel_rfl, by kernel_rfl, by kernel_rfl, nofun, trivial⟩
def ti158 : TI := ⟨(TypeDesc.tuple #[3, 157]), 1, 0, [.tuple { toList := [.int .i64 0, .int .i64 0] }], false, [], []⟩
theorem tio158 : TIOk Tryz.prog (158, ti158) := ⟨by kernel_rfl, by kernel_rfl, by kernel_rfl, nofun, trivial⟩
def ti159 : TI := ⟨(TypeDesc.func #[32, 3, 3] #[3, 157] false), 1, 8, [.nilFunc], false, [], []⟩
theorem tio159 : TIOk Tryz.prog (159, ti159) := ⟨by kernel_rfl, by kernel_rfl, by kernel_rfl, nofun, trivial⟩
def ti160 : TI := ⟨(TypeDesc.func #[32, 3, 3] #[4] false), 1, 8, [.nilFunc], false, [], []⟩
theorem tio160 : TIOk Tryz.prog (160, ti160) := ⟨by kernel_rfl, by kernel_rfl, by kernel_rfl, nofun, trivial⟩
def ti161 : TI := ⟨(TypeDesc.func #[9, 9] #[4] false), 1, 8, [.nilFunc], false, [], []⟩
theorem tio161 : TIOk Tryz.prog (161, ti161) := ⟨by kernel_rfl, by kernel_rfl, by kernel_rfl, nofun, trivial⟩
def ti162 : TI := ⟨(TypeDesc.func #[32, 3, 3, 3] #[3] false), 1, 8, [.nilFunc], false, [], []⟩
theorem tio162 : TIOk Tryz.prog (162, ti162) := ⟨by kernel_rfl, by kernel_rfl, by kernel_rfl, nofun, trivial⟩
def ti163 : TI := ⟨(TypeDesc.tuple #[3, 4]), 1, 0, [.tuple { toList := [.int .i64 0, .bool false] }], false, [], []⟩
theorem tio163 : TIOk Tryz.prog (163, ti163) := ⟨by kernel_rfl, by kernel_rfl, by kernel_rfl, nofun, trivial⟩
def ti164 : TI := ⟨(TypeDesc.func #[32, 3, 3, 3] #[3, 4] false), 1, 8, [.nilFunc], false, [], []⟩
theorem tio164 : TIOk Tryz.prog (164, ti164) := ⟨by kernel_rfl, by kernel_rfl, by kernel_rfl, nofun, trivial⟩
def ti165 : TI := ⟨(TypeDesc.func #[166] #[3] false), 1, 8, [.nilFunc], false, [], []⟩
theorem tio165 : TIOk Tryz.prog (165, ti165) := ⟨by kernel_rfl, by kernel_rfl, by kernel_rfl, nofun, trivial⟩
def ti166 : TI := ⟨(TypeDesc.int IntKind.u32), 1, 4, [.int .u32 0], false, [], []⟩
theorem tio166 : TIOk Tryz.prog (166, ti166) := ⟨by kernel_rfl, by kernel_rfl, by kernel_rfl, nofun, trivial⟩
def ti167 : TI := ⟨(TypeDesc.func #[168] #[3] false), 1, 8, [.nilFunc], false, [], []⟩
theorem tio167 : TIOk Tryz.prog (167, ti167) := ⟨by kernel_rfl, by kernel_rfl, by kernel_rfl, nofun, trivial⟩
def ti168 : TI := ⟨(TypeDesc.int IntKind.u64), 1, 8, [.int .u64 0], false, [], []⟩
theorem tio168 : TIOk Tryz.prog (168, ti168) := ⟨by kernel_rfl, by kernel_rfl, by kernel_rfl, nofun, trivial⟩
def ti169 : TI := ⟨(TypeDesc.tuple #[4, 35]), 1, 0, [.tuple { toList := [.bool false, .int .i64 0] }], false, [], []⟩
theorem tio169 : TIOk Tryz.prog (169, ti169) := ⟨by kernel_rfl, by kernel_rfl, by kernel_rfl, nofun, trivial⟩
def ti170 : TI := ⟨(TypeDesc.func #[26, 130] #[4, 35] false), 1, 8, [.nilFunc], false, [], []⟩
theorem tio170 : TIOk Tryz.prog (170, ti170) := ⟨by kernel_rfl, by kernel_rfl, by kernel_rfl, nofun, trivial⟩
def ti171 : TI := ⟨(TypeDesc.slice 5), 1, 24, [.slice none 0 0], false, [], []⟩
theorem tio171 : TIOk Tryz.prog (171, ti171) := ⟨by kernel_rfl, by kernel_rfl, by kernel_rfl, nofun, trivial⟩
def ti172 : TI := ⟨(TypeDesc.func #[3, 2] #[] false), 1, 8, [.nilFunc], false, [], []⟩
theorem tio172 : TIOk Tryz.prog (172, ti172) := ⟨by kernel_rfl, by kernel_rfl, by kernel_rfl, nofun, trivial⟩
def ti173 : TI := ⟨(TypeDesc.tuple #[26, 35]), 1, 0, [.tuple { toList := [.agg { toList := [.slice none 0 0, .slice none 0 0, .slice none 0 0] }, .int .i64 0] }], false, [], []⟩
theorem tio173 : TIOk Tryz.prog (173, ti173) := ⟨by kernel_rfl, by kernel_rfl, by kernel_rfl, nofun, trivial⟩
def ti174 : TI := ⟨(TypeDesc.func #[26, 3, 3] #[26, 35] false), 1, 8, [.nilFunc], false, [], []⟩
theorem tio174 : TIOk Tryz.prog (174, ti174) := ⟨by kernel_rfl, by kernel_rfl, by kernel_rfl, nofun, trivial⟩
def ti175 : TI := ⟨(TypeDesc.func #[26, 3, 2] #[26, 35] false), 1, 8, [.nilFunc], false, [], []⟩
theorem tio175 : TIOk Tryz.prog (175, ti175) := ⟨by kernel_rfl, by kernel_rfl, by kernel_rfl, nofun, trivial⟩
def ti176 : TI := ⟨(TypeDesc.tuple #[26, 2, 4, 35]), 1, 0, [.tuple { toList := [.agg { toList := [.slice none 0 0, .slice none 0 0, .slice none 0 0] }, .int .i64 0, .bool false, .int .i64 0] }], false, [], []⟩
theorem tio176 : TIOk Tryz.prog (176, ti176) := ⟨by kernel_rfl, by kernel_rfl, by kernel_rfl, nofun, trivial⟩
def ti177 : TI := ⟨(TypeDesc.func #[26, 3] #[26, 2, 4, 35] false), 1, 8, [.nilFunc], false, [], []⟩
theorem tio177 : TIOk Tryz.prog (177, ti177) := ⟨by kernel_rfl, by kernel_rfl, by kernel_rfl, nofun, trivial⟩
def ti178 : TI := ⟨(TypeDesc.func #[26, 3] #[26, 35] false), 1, 8, [.nilFunc], false, [], []⟩
theorem tio178 : TIOk Tryz.prog (178, ti178) := ⟨by kernel_rfl, by kernel_rfl, by kernel_rfl, nofun, trivial⟩
def ti179 : TI := ⟨(TypeDesc.int IntKind.u64), 1, 8, [.int .u64 0], false, [], []⟩
theorem tio179 : TIOk Tryz.prog (179, ti179) := ⟨by kernel_rfl, by kernel_rfl, by kernel_rfl, nofun, trivial⟩
def ti180 : TI := ⟨(TypeDesc.func #[3] #[146] false), 1, 8, [.nilFunc], false, [], []⟩
theorem tio180 : TIOk Tryz.prog (180, ti180) := ⟨by kernel_rfl, by kernel_rfl, by kernel_rfl, nofun, trivial⟩
def ti181 : TI := ⟨(TypeDesc.func #[] #[168] false), 1, 8, [.nilFunc], false, [], []⟩
theorem tio181 : TIOk Tryz.prog (181, ti181) := ⟨by kernel_rfl, by kernel_rfl, by kernel_rfl, nofun, trivial⟩
def ti182 : TI := ⟨(TypeDesc.func #[32, 3, 183] #[3] false), 1, 8, [.nilFunc], false, [], []⟩
theorem tio182 : TIOk Tryz.prog (182, ti182) := ⟨by kernel_rfl, by kernel_rfl, by kernel_rfl, nofun, trivial⟩
def ti183 : TI := ⟨(TypeDesc.pointer 3), 1, 8, [.pointer none], false, [], []⟩
theorem tio183 : TIOk Tryz.prog (183, ti183) := ⟨by kernel_rfl, by kernel_rfl, by kernel_rfl, nofun, trivial⟩
def ti184 : TI := ⟨(TypeDesc.func #[32, 3, 3, 3, 183] #[3] false), 1, 8, [.nilFunc], false, [], []⟩
theorem tio184 : TIOk Tryz.prog (184, ti184) := ⟨by kernel_rfl, by kernel_rfl, by kernel_rfl, nofun, trivial⟩
def ti185 : TI := ⟨(TypeDesc.func #[26, 3, 3] #[35] false), 1, 8, [.nilFunc], false, [], []⟩
theorem tio185 : TIOk Tryz.prog (185, ti185) := ⟨by kernel_rfl, by kernel_rfl, by kernel_rfl, nofun, trivial⟩
def ti186 : TI := ⟨(TypeDesc.func #[140, 3] #[4] false), 1, 8, [.nilFunc], false, [], []⟩
theorem tio186 : TIOk Tryz.prog (186, ti186) := ⟨by kernel_rfl, by kernel_rfl, by kernel_rfl, nofun, trivial⟩
def ti187 : TI := ⟨(TypeDesc.func #[26, 3] #[35] false), 1, 8, [.nilFunc], false, [], []⟩
theorem tio187 : TIOk Tryz.prog (187, ti187) := ⟨by kernel_rfl, by kernel_rfl, by kernel_rfl, nofun, trivial⟩
def ti188 : TI := ⟨(TypeDesc.pointer 179), 1, 8, [.pointer none], false, [], []⟩
theorem tio188 : TIOk Tryz.prog (188, ti188) := ⟨by kernel_rfl, by kernel_rfl, by kernel_rfl, nofun, trivial⟩
def ti189 : TI := ⟨(TypeDesc.tuple #[3, 3]), 1, 0, [.tuple { toList := [.int .i64 0, .int .i64 0] }], false, [], []⟩
theorem tio189 : TIOk Tryz.prog (189, ti189) := ⟨by kernel_rfl, by kernel_rfl, by kernel_rfl, nofun, trivial⟩
def ti190 : TI := ⟨(TypeDesc.func #[32, 3, 3, 183] #[3, 3] false), 1, 8, [.nilFunc], false, [], []⟩
theorem tio190 : TIOk Tryz.prog (190, ti190) := ⟨by kernel_rfl, by kernel_rfl, by kernel_rfl, nofun, trivial⟩
def ti191 : TI := ⟨(TypeDesc.struct #[{ name := "_interface", type := 17, offset := 0, embedded := false, tag := "", pkgPath := "runtime", byteOffset := 0 }, { name := "concrete", type := 17, offset := 1, embedded := false, tag := "", pkgPath := "runtime", byteOffset := 8 }, { name := "asserted", type := 17, offset := 2, embedded := false, tag := "", pkgPath := "runtime", byteOffset := 16 }, { name := "missingMethod", type := 9, offset := 3, embedded := false, tag := "", pkgPath := "runtime", byteOffset := 24 }]), 4, 40, [.pointer none, .pointer none, .pointer none, .string { data := #[] }], false, [], []⟩
theorem tio191 : TIOk Tryz.prog (191, ti191) := ⟨by kernel_rfl, by kernel_rfl, by kernel_rfl, nofun, trivial⟩
def ti192 : TI := ⟨(TypeDesc.struct #[{ name := "_interface", type := 17, offset := 0, embedded := false, tag := "", pkgPath := "runtime", byteOffset := 0 }, { name := "concrete", type := 17, offset := 1, embedded := false, tag := "", pkgPath := "runtime", byteOffset := 8 }, { name := "asserted", type := 17, offset := 2, embedded := false, tag := "", pkgPath := "runtime", byteOffset := 16 }, { name := "missingMethod", type := 9, offset := 3, embedded := false, tag := "", pkgPath := "runtime", byteOffset := 24 }]), 4, 40, [.pointer none, .pointer none, .pointer none, .string { data := #[] }], false, [], []⟩
theorem tio192 : TIOk Tryz.prog (192, ti192) := ⟨by kernel_rfl, by kernel_rfl, by kernel_rfl, nofun, trivial⟩
def ti193 : TI := ⟨(TypeDesc.array 0 16), 0, 0, [], false, [], []⟩
theorem tio193 : TIOk Tryz.prog (193, ti193) := ⟨by kernel_rfl, by kernel_rfl, by kernel_rfl, nofun, trivial⟩
def ti194 : TI := ⟨(TypeDesc.struct #[{ name := "_", type := 193, offset := 0, embedded := false, tag := "", pkgPath := "runtime", byteOffset := 0 }]), 0, 0, [], false, [], []⟩
theorem tio194 : TIOk Tryz.prog (194, ti194) := ⟨by kernel_rfl, by kernel_rfl, by kernel_rfl, nofun, trivial⟩
def ti195 : TI := ⟨(TypeDesc.struct #[{ name := "_", type := 193, offset := 0, embedded := false, tag := "", pkgPath := "runtime", byteOffset := 0 }]), 0, 0, [], false, [], []⟩
theorem tio195 : TIOk Tryz.prog (195, ti195) := ⟨by kernel_rfl, by kernel_rfl, by kernel_rfl, nofun, trivial⟩
def ti196 : TI := ⟨(TypeDesc.func #[] #[3] false), 1, 8, [.nilFunc], false, [], []⟩
theorem tio196 : TIOk Tryz.prog (196, ti196) := ⟨by kernel_rfl, by kernel_rfl, by kernel_rfl, nofun, trivial⟩
def ti197 : TI := ⟨(TypeDesc.int IntKind.u8), 1, 1, [.int .u8 0], false, [], []⟩
theorem tio197 : TIOk Tryz.prog (197, ti197) := ⟨by kernel_rfl, by kernel_rfl, by kernel_rfl, nofun, trivial⟩
def ti198 : TI := ⟨(TypeDesc.int IntKind.u8), 1, 1, [.int .u8 0], false, [], []⟩
theorem tio198 : TIOk Tryz.prog (198, ti198) := ⟨by kernel_rfl, by kernel_rfl, by kernel_rfl, nofun, trivial⟩
def ti199 : TI := ⟨(TypeDesc.func #[205, 205] #[4] false), 1, 8, [.nilFunc], false, [], []⟩
theorem tio199 : TIOk Tryz.prog (199, ti199) := ⟨by kernel_rfl, by kernel_rfl, by kernel_rfl, nofun, trivial⟩
def ti200 : TI := ⟨(TypeDesc.pointer 5), 1, 8, [.pointer none], false, [], []⟩
theorem tio200 : TIOk Tryz.prog (200, ti200) := ⟨by kernel_rfl, by kernel_rfl, by kernel_rfl, nofun, trivial⟩
def ti201 : TI := ⟨(TypeDesc.int IntKind.i32), 1, 4, [.int .i32 0], false, [], []⟩
theorem tio201 : TIOk Tryz.prog (201, ti201) := ⟨by kernel_rfl, by kernel_rfl, by kernel_rfl, nofun, trivial⟩
def ti202 : TI := ⟨(TypeDesc.int IntKind.i32), 1, 4, [.int .i32 0], false, [], []⟩
theorem tio202 : TIOk Tryz.prog (202, ti202) := ⟨by kernel_rfl, by kernel_rfl, by kernel_rfl, nofun, trivial⟩
def ti203 : TI := ⟨(TypeDesc.struct #[{ name := "Size_", type := 12, offset := 0, embedded := false, tag := "", pkgPath := "", byteOffset := 0 }, { name := "PtrBytes", type := 12, offset := 1, embedded := false, tag := "", pkgPath := "", byteOffset := 8 }, { name := "Hash", type := 166, offset := 2, embedded := false, tag := "", pkgPath := "", byteOffset := 16 }, { name := "TFlag", type := 197, offset := 3, embedded := false, tag := "", pkgPath := "", byteOffset := 20 }, { name := "Align_", type := 5, offset := 4, embedded := false, tag := "", pkgPath := "", byteOffset := 21 }, { name := "FieldAlign_", type := 5, offset := 5, embedded := false, tag := "", pkgPath := "", byteOffset := 22 }, { name := "Kind_", type := 198, offset := 6, embedded := false, tag := "", pkgPath := "", byteOffset := 23 }, { name := "Equal", type := 199, offset := 7, embedded := false, tag := "", pkgPath := "", byteOffset := 24 }, { name := "GCData", type := 200, offset := 8, embedded := false, tag := "", pkgPath := "", byteOffset := 32 }, { name := "Str", type := 201, offset := 9, embedded := false, tag := "", pkgPath := "", byteOffset := 40 }, { name := "PtrToThis", type := 202, offset := 10, embedded := false, tag := "", pkgPath := "", byteOffset := 44 }]), 11, 48, [.int .u64 0, .int .u64 0, .int .u32 0, .int .u8 0, .int .u8 0, .int .u8 0, .int .u8 0, .nilFunc, .pointer none, .int .i32 0, .int .i32 0], false, [], []⟩
theorem tio203 : TIOk Tryz.prog (203, ti203) := ⟨by kernel_rfl, by kernel_rfl, by kernel_rfl, nofun, trivial⟩
def ti204 : TI := ⟨(TypeDesc.struct #[{ name := "Size_", type := 12, offset := 0, embedded := false, tag := "", pkgPath := "", byteOffset := 0 }, { name := "PtrBytes", type := 12, offset := 1, embedded := false, tag := "", pkgPath := "", byteOffset := 8 }, { name := "Hash", type := 166, offset := 2, embedded := false, tag := "", pkgPath := "", byteOffset := 16 }, { name := "TFlag", type := 197, offset := 3, embedded := false, tag := "", pkgPath := "", byteOffset := 20 }, { name := "Align_", type := 5, offset := 4, embedded := false, tag := "", pkgPath := "", byteOffset := 21 }, { name := "FieldAlign_", type := 5, offset := 5, embedded := false, tag := "", pkgPath := "", byteOffset := 22 }, { name := "Kind_", type := 198, offset := 6, embedded := false, tag := "", pkgPath := "", byteOffset := 23 }, { name := "Equal", type := 199, offset := 7, embedded := false, tag := "", pkgPath := "", byteOffset := 24 }, { name := "GCData", type := 200, offset := 8, embedded := false, tag := "", pkgPath := "", byteOffset := 32 }, { name := "Str", type := 201, offset := 9, embedded := false, tag := "", pkgPath := "", byteOffset := 40 }, { name := "PtrToThis", type := 202, offset := 10, embedded := false, tag := "", pkgPath := "", byteOffset := 44 }]), 11, 48, [.int .u64 0, .int .u64 0, .int .u32 0, .int .u8 0, .int .u8 0, .int .u8 0, .int .u8 0, .nilFunc, .pointer none, .int .i32 0, .int .i32 0], false, [], []⟩
theorem tio204 : TIOk Tryz.prog (204, ti204) := ⟨by kernel_rfl, by kernel_rfl, by kernel_rfl, nofun, trivial⟩
def ti205 : TI := ⟨TypeDesc.unsafePointer, 1, 8, [.pointer none], false, [], []⟩
theorem tio205 : TIOk Tryz.prog (205, ti205) := ⟨by kernel_rfl, by kernel_rfl, by kernel_rfl, nofun, trivial⟩
def tb : Tab := [(0, ti0), (1, ti1), (2, ti2), (3, ti3), (4, ti4), (5, ti5), (6, ti6), (7, ti7), (8, ti8), (9, ti9), (10, ti10), (11, ti11), (12, ti12), (13, ti13), (14, ti14), (15, ti15), (16, ti16), (17, ti17), (18, ti18), (19, ti19), (20, ti20), (21, ti21), (22, ti22), (23, ti23), (24, ti24), (25, ti25), (26, ti26), (27, ti27), (28, ti28), (29, ti29), (30, ti30), (31, ti31), (32, ti32), (33, ti33), (34, ti34), (35, ti35), (36, ti36), (37, ti37), (38, ti38), (39, ti39), (40, ti40), (41, ti41), (42, ti42), (43, ti43), (44, ti44), (45, ti45), (46, ti46), (47, ti47), (48, ti48), (49, ti49), (50, ti50), (51, ti51), (52, ti52), (53, ti53), (54, ti54), (55, ti55), (56, ti56), (57, ti57), (58, ti58), (59, ti59), (60, ti60), (61, ti61), (62, ti62), (63, ti63), (64, ti64), (65, ti65), (66, ti66), (67, ti67), (68, ti68), (69, ti69), (70, ti70), (71, ti71), (72, ti72), (73, ti73), (74, ti74), (75, ti75), (76, ti76), (77, ti77), (78, ti78), (79, ti79), (80, ti80), (81, ti81), (82, ti82), (83, ti83), (84, ti84), (85, ti85), (86, ti86), (87, ti87), (88, ti88), (89, ti89), (90, ti90), (91, ti91), (92, ti92), (93, ti93), (94, ti94), (95, ti95), (96, ti96), (97, ti97), (98, ti98), (99, ti99), (100, ti100), (101, ti101), (102, ti102), (103, ti103), (104, ti104), (105, ti105), (106, ti106), (107, ti107), (108, ti108), (109, ti109), (110, ti110), (111, ti111), (112, ti112), (113, ti113), (114, ti114), (115, ti115), (116, ti116), (117, ti117), (118, ti118), (119, ti119), (120, ti120), (121, ti121), (122, ti122), (123, ti123), (124, ti124), (125, ti125), (126, ti126), (127, ti127), (128, ti128), (129, ti129), (130, ti130), (131, ti131), (132, ti132), (133, ti133), (134, ti134), (135, ti135), (136, ti136), (137, ti137), (138, ti138), (139, ti139), (140, ti140), (141, ti141), (142, ti142), (143, ti143), (144, ti144), (145, ti145), (146, ti146), (147, ti147), (148, ti148), (149, ti149), (150, ti150), (151, ti151), (152, ti152), (153, ti153), (154, ti154), (155, ti155), (156, ti156), (157, ti157), (158, ti158), (159, ti159), (160, ti160), (161, ti161), (162, ti162), (163, ti163), (164, ti164), (165, ti165), (166, ti166), (167, ti167), (168, ti168), (169, ti169), (170, ti170), (171, ti171), (172, ti172), (173, ti173), (174, ti174), (175, ti175), (176, ti176), (177, ti177), (178, ti178), (179, ti179), (180, ti180), (181, ti181), (182, ti182), (183, ti183), (184, ti184), (185, ti185), (186, ti186), (187, ti187), (188, ti188), (189, ti189), (190, ti190), (191, ti191), (192, ti192), (193, ti193), (194, ti194), (195, ti195), (196, ti196), (197, ti197), (198, ti198), (199, ti199), (200, ti200), (201, ti201), (202, ti202), (203, ti203), (204, ti204), (205, ti205)]
theorem tbOk : TabOk Tryz.prog tb := ⟨tio0, tio1, tio2, tio3, tio4, tio5, tio6, tio7, tio8, tio9, tio10, tio11, tio12, tio13, tio14, tio15, tio16, tio17, tio18, tio19, tio20, tio21, tio22, tio23, tio24, tio25, tio26, tio27, tio28, tio29, tio30, tio31, tio32, tio33, tio34, tio35, tio36, tio37, tio38, tio39, tio40, tio41, tio42, tio43, tio44, tio45, tio46, tio47, tio48, tio49, tio50, tio51, tio52, tio53, tio54, tio55, tio56, tio57, tio58, tio59, tio60, tio61, tio62, tio63, tio64, tio65, tio66, tio67, tio68, tio69, tio70, tio71, tio72, tio73, tio74, tio75, tio76, tio77, tio78, tio79, tio80, tio81, tio82, tio83, tio84, tio85, tio86, tio87, tio88, tio89, tio90, tio91, tio92, tio93, tio94, tio95, tio96, tio97, tio98, tio99, tio100, tio101, tio102, tio103, tio104, tio105, tio106, tio107, tio108, tio109, tio110, tio111, tio112, tio113, tio114, tio115, tio116, tio117, tio118, tio119, tio120, tio121, tio122, tio123, tio124, tio125, tio126, tio127, tio128, tio129, tio130, tio131, tio132, tio133, tio134, tio135, tio136, tio137, tio138, tio139, tio140, tio141, tio142, tio143, tio144, tio145, tio146, tio147, tio148, tio149, tio150, tio151, tio152, tio153, tio154, tio155, tio156, tio157, tio158, tio159, tio160, tio161, tio162, tio163, tio164, tio165, tio166, tio167, tio168, tio169, tio170, tio171, tio172, tio173, tio174, tio175, tio176, tio177, tio178, tio179, tio180, tio181, tio182, tio183, tio184, tio185, tio186, tio187, tio188, tio189, tio190, tio191, tio192, tio193, tio194, tio195, tio196, tio197, tio198, tio199, tio200, tio201, tio202, tio203, tio204, tio205, trivial⟩
theorem mixed : Tryz.prog.follows .mixedOrders = true := by kernel_rfl
theorem pl3 : Plain Tryz.prog 3 := fun _ _ => by kernel_rfl
theorem pl4 : Plain Tryz.prog 4 := fun _ _ => by kernel_rfl
theorem pl5 : Plain Tryz.prog 5 := fun _ _ => by kernel_rfl
theorem pl6 : Plain Tryz.prog 6 := fun _ _ => by kernel_rfl
theorem pl7 : Plain Tryz.prog 7 := fun _ _ => by kernel_rfl
theorem pl8 : Plain Tryz.prog 8 := fun _ _ => by kernel_rfl
theorem pl9 : Plain Tryz.prog 9 := fun _ _ => by kernel_rfl
theorem pl10 : Plain Tryz.prog 10 := fun _ _ => by kernel_rfl
theorem pl11 : Plain Tryz.prog 11 := fun _ _ => by kernel_rfl
theorem pl12 : Plain Tryz.prog 12 := fun _ _ => by kernel_rfl
theorem pl13 : Plain Tryz.prog 13 := fun _ _ => by kernel_rfl
theorem pl14 : Plain Tryz.prog 14 := fun _ _ => by kernel_rfl
theorem pl15 : Plain Tryz.prog 15 := fun _ _ => by kernel_rfl
theorem pl16 : Plain Tryz.prog 16 := fun _ _ => by kernel_rfl
theorem pl17 : Plain Tryz.prog 17 := fun _ _ => by kernel_rfl
theorem pl18 : Plain Tryz.prog 18 := fun _ _ => by kernel_rfl
theorem pl19 : Plain Tryz.prog 19 := fun _ _ => by kernel_rfl
theorem pl20 : Plain Tryz.prog 20 := fun _ _ => by kernel_rfl
theorem pl21 : Plain Tryz.prog 21 := fun _ _ => by kernel_rfl
theorem pl22 : Plain Tryz.prog 22 := fun _ _ => by kernel_rfl
theorem pl23 : Plain Tryz.prog 23 := fun _ _ => by kernel_rfl
theorem pl24 : Plain Tryz.prog 24 := fun _ _ => by kernel_rfl
theorem pl25 : Plain Tryz.prog 25 := fun _ _ => by kernel_rfl
theorem pl26 : Plain Tryz.prog 26 := fun _ _ => by kernel_rfl
theorem pl27 : Plain Tryz.prog 27 := fun _ _ => by kernel_rfl
theorem pl28 : Plain Tryz.prog 28 := fun _ _ => by kernel_rfl
theorem pl29 : Plain Tryz.prog 29 := fun _ _ => by kernel_rfl
theorem pl30 : Plain Tryz.prog 30 := fun _ _ => by kernel_rfl
theorem pl31 : Plain Tryz.prog 31 := fun _ _ => by kernel_rfl
theorem pl32 : Plain Tryz.prog 32 := fun _ _ => by kernel_rfl
theorem pl33 : Plain Tryz.prog 33 := fun _ _ => by kernel_rfl
theorem pl34 : Plain Tryz.prog 34 := fun _ _ => by kernel_rfl
theorem pl35 : Plain Tryz.prog 35 := fun _ _ => by kernel_rfl
theorem pl36 : Plain Tryz.prog 36 := fun _ _ => by kernel_rfl
theorem pl37 : Plain Tryz.prog 37 := fun _ _ => by kernel_rfl
theorem pl38 : Plain Tryz.prog 38 := fun _ _ => by kernel_rfl
theorem pl39 : Plain Tryz.prog 39 := fun _ _ => by kernel_rfl
theorem pl40 : Plain Tryz.prog 40 := fun _ _ => by kernel_rfl
theorem pl41 : Plain Tryz.prog 41 := fun _ _ => by kernel_rfl
theorem pl42 : Plain Tryz.prog 42 := fun _ _ => by kernel_rfl
theorem pl43 : Plain Tryz.prog 43 := fun _ _ => by kernel_rfl
theorem pl44 : Plain Tryz.prog 44 := fun _ _ => by kernel_rfl
theorem pl45 : Plain Tryz.prog 45 := fun _ _ => by kernel_rfl
theorem pl46 : Plain Tryz.prog 46 := fun _ _ => by kernel_rfl
theorem pl47 : Plain Tryz.prog 47 := fun _ _ => by kernel_rfl
theorem pl48 : Plain Tryz.prog 48 := fun _ _ => by kernel_rfl
theorem pl49 : Plain Tryz.prog 49 := fun _ _ => by kernel_rfl
theorem pl50 : Plain Tryz.prog 50 := fun _ _ => by kernel_rfl
theorem pl51 : Plain Tryz.prog 51 := fun _ _ => by kernel_rfl
theorem pl52 : Plain Tryz.prog 52 := fun _ _ => by kernel_rfl
theorem pl53 : Plain Tryz.prog 53 := fun _ _ => by kernel_rfl
theorem pl54 : Plain Tryz.prog 54 := fun _ _ => by kernel_rfl
theorem pl55 : Plain Tryz.prog 55 := fun _ _ => by kernel_rfl
theorem pl56 : Plain Tryz.prog 56 := fun _ _ => by kernel_rfl
theorem pl57 : Plain Tryz.prog 57 := fun _ _ => by kernel_rfl
theorem pl58 : Plain Tryz.prog 58 := fun _ _ => by kernel_rfl
theorem pl59 : Plain Tryz.prog 59 := fun _ _ => by kernel_rfl
theorem pl60 : Plain Tryz.prog 60 := fun _ _ => by kernel_rfl
theorem pl61 : Plain Tryz.prog 61 := fun _ _ => by kernel_rfl
theorem pl62 : Plain Tryz.prog 62 := fun _ _ => by kernel_rfl
theorem pl63 : Plain Tryz.prog 63 := fun _ _ => by kernel_rfl
theorem pl64 : Plain Tryz.prog 64 := fun _ _ => by kernel_rfl
theorem pl65 : Plain Tryz.prog 65 := fun _ _ => by kernel_rfl
theorem pl66 : Plain Tryz.prog 66 := fun _ _ => by kernel_rfl
theorem pl67 : Plain Tryz.prog 67 := fun _ _ => by kernel_rfl
theorem pl68 : Plain Tryz.prog 68 := fun _ _ => by kernel_rfl
theorem pl69 : Plain Tryz.prog 69 := fun _ _ => by kernel_rfl
theorem pl70 : Plain Tryz.prog 70 := fun _ _ => by kernel_rfl
theorem pl71 : Plain Tryz.prog 71 := fun _ _ => by kernel_rfl
theorem pl72 : Plain Tryz.prog 72 := fun _ _ => by kernel_rfl
theorem pl73 : Plain Tryz.prog 73 := fun _ _ => by kernel_rfl
theorem pl74 : Plain Tryz.prog 74 := fun _ _ => by kernel_rfl
theorem pl75 : Plain Tryz.prog 75 := fun _ _ => by kernel_rfl
theorem pl76 : Plain Tryz.prog 76 := fun _ _ => by kernel_rfl
theorem pl77 : Plain Tryz.prog 77 := fun _ _ => by kernel_rfl
theorem pl78 : Plain Tryz.prog 78 := fun _ _ => by kernel_rfl
theorem pl79 : Plain Tryz.prog 79 := fun _ _ => by kernel_rfl
theorem pl80 : Plain Tryz.prog 80 := fun _ _ => by kernel_rfl
theorem pl81 : Plain Tryz.prog 81 := fun _ _ => by kernel_rfl
theorem pl82 : Plain Tryz.prog 82 := fun _ _ => by kernel_rfl
theorem pl83 : Plain Tryz.prog 83 := fun _ _ => by kernel_rfl
theorem pl84 : Plain Tryz.prog 84 := fun _ _ => by kernel_rfl
theorem pl85 : Plain Tryz.prog 85 := fun _ _ => by kernel_rfl
theorem pl86 : Plain Tryz.prog 86 := fun _ _ => by kernel_rfl
theorem pl87 : Plain Tryz.prog 87 := fun _ _ => by kernel_rfl
theorem pl88 : Plain Tryz.prog 88 := fun _ _ => by kernel_rfl
theorem pl89 : Plain Tryz.prog 89 := fun _ _ => by kernel_rfl
theorem pl90 : Plain Tryz.prog 90 := fun _ _ => by kernel_rfl
theorem pl91 : Plain Tryz.prog 91 := fun _ _ => by kernel_rfl
theorem pl92 : Plain Tryz.prog 92 := fun _ _ => by kernel_rfl
theorem pl93 : Plain Tryz.prog 93 := fun _ _ => by kernel_rfl
theorem pl94 : Plain Tryz.prog 94 := fun _ _ => by kernel_rfl
theorem pl95 : Plain Tryz.prog 95 := fun _ _ => by kernel_rfl
theorem pl96 : Plain Tryz.prog 96 := fun _ _ => by kernel_rfl
theorem pl97 : Plain Tryz.prog 97 := fun _ _ => by kernel_rfl
theorem pl98 : Plain Tryz.prog 98 := fun _ _ => by kernel_rfl
theorem pl99 : Plain Tryz.prog 99 := fun _ _ => by kernel_rfl
theorem pl100 : Plain Tryz.prog 100 := fun _ _ => by kernel_rfl
theorem pl101 : Plain Tryz.prog 101 := fun _ _ => by kernel_rfl
theorem pl102 : Plain Tryz.prog 102 := fun _ _ => by kernel_rfl
theorem pl103 : Plain Tryz.prog 103 := fun _ _ => by kernel_rfl
theorem pl104 : Plain Tryz.prog 104 := fun _ _ => by kernel_rfl
theorem pl105 : Plain Tryz.prog 105 := fun _ _ => by kernel_rfl
theorem pl106 : Plain Tryz.prog 106 := fun _ _ => by kernel_rfl
theorem pl122 : Plain Tryz.prog 122 := fun _ _ => by kernel_rfl
theorem pl123 : Plain Tryz.prog 123 := fun _ _ => by kernel_rfl
theorem pl124 : Plain Tryz.prog 124 := fun _ _ => by kernel_rfl
theorem pl125 : Plain Tryz.prog 125 := fun _ _ => by kernel_rfl
theorem pl126 : Plain Tryz.prog 126 := fun _ _ => by kernel_rfl
theorem pl127 : Plain Tryz.prog 127 := fun _ _ => by kernel_rfl
theorem pl128 : Plain Tryz.prog 128 := fun _ _ => by kernel_rfl
theorem pl129 : Plain Tryz.prog 129 := fun _ _ => by kernel_rfl
theorem pl130 : Plain Tryz.prog 130 := fun _ _ => by kernel_rfl
@[simp] theorem keeps_eq : keepsOf tb = [34, 37, 38, 39, 50, 58] := rfl
attribute [simp] ti0 ti1 ti2 ti3 ti4 ti5 ti6 ti7 ti8 ti9 ti10 ti11 ti12 ti13 ti14 ti15 ti16 ti17 ti18 ti19 ti20 ti21 ti22 ti23 ti24 ti25 ti26 ti27 ti28 ti29 ti30 ti31 ti32 ti33 ti34 ti35 ti36 ti37 ti38 ti39 ti40 ti41 ti42 ti43 ti44 ti45 ti46 ti47 ti48 ti49 ti50 ti51 ti52 ti53 ti54 ti55 ti56 ti57 ti58 ti59 ti60 ti61 ti62 ti63 ti64 ti65 ti66 ti67 ti68 ti69 ti70 ti71 ti72 ti73 ti74 ti75 ti76 ti77 ti78 ti79 ti80 ti81 ti82 ti83 ti84 ti85 ti86 ti87 ti88 ti89 ti90 ti91 ti92 ti93 ti94 ti95 ti96 ti97 ti98 ti99 ti100 ti101 ti102 ti103 ti104 ti105 ti106 ti107 ti108 ti109 ti110 ti111 ti112 ti113 ti114 ti115 ti116 ti117 ti118 ti119 ti120 ti121 ti122 ti123 ti124 ti125 ti126 ti127 ti128 ti129 ti130 ti131 ti132 ti133 ti134 ti135 ti136 ti137 ti138 ti139 ti140 ti141 ti142 ti143 ti144 ti145 ti146 ti147 ti148 ti149 ti150 ti151 ti152 ti153 ti154 ti155 ti156 ti157 ti158 ti159 ti160 ti161 ti162 ti163 ti164 ti165 ti166 ti167 ti168 ti169 ti170 ti171 ti172 ti173 ti174 ti175 ti176 ti177 ti178 ti179 ti180 ti181 ti182 ti183 ti184 ti185 ti186 ti187 ti188 ti189 ti190 ti191 ti192 ti193 ti194 ti195 ti196 ti197 ti198 ti199 ti200 ti201 ti202 ti203 ti204 ti205
@[simp] theorem tbl0 : look 0 tb = some ti0 := rfl
@[simp] theorem tbl1 : look 1 tb = some ti1 := rfl
@[simp] theorem tbl2 : look 2 tb = some ti2 := rfl
@[simp] theorem tbl3 : look 3 tb = some ti3 := rfl
@[simp] theorem tbl4 : look 4 tb = some ti4 := rfl
@[simp] theorem tbl5 : look 5 tb = some ti5 := rfl
@[simp] theorem tbl6 : look 6 tb = some ti6 := rfl
@[simp] theorem tbl7 : look 7 tb = some ti7 := rfl
@[simp] theorem tbl8 : look 8 tb = some ti8 := rfl
@[simp] theorem tbl9 : look 9 tb = some ti9 := rfl
@[simp] theorem tbl10 : look 10 tb = some ti10 := rfl
@[simp] theorem tbl11 : look 11 tb = some ti11 := rfl
@[simp] theorem tbl12 : look 12 tb = some ti12 := rfl
@[simp] theorem tbl13 : look 13 tb = some ti13 := rfl
@[simp] theorem tbl14 : look 14 tb = some ti14 := rfl
@[simp] theorem tbl15 : look 15 tb = some ti15 := rfl
@[simp] theorem tbl16 : look 16 tb = some ti16 := rfl
@[simp] theorem tbl17 : look 17 tb = some ti17 := rfl
@[simp] theorem tbl18 : look 18 tb = some ti18 := rfl
@[simp] theorem tbl19 : look 19 tb = some ti19 := rfl
@[simp] theorem tbl20 : look 20 tb = some ti20 := rfl
@[simp] theorem tbl21 : look 21 tb = some ti21 := rfl
@[simp] theorem tbl22 : look 22 tb = some ti22 := rfl
@[simp] theorem tbl23 : look 23 tb = some ti23 := rfl
@[simp] theorem tbl24 : look 24 tb = some ti24 := rfl
@[simp] theorem tbl25 : look 25 tb = some ti25 := rfl
@[simp] theorem tbl26 : look 26 tb = some ti26 := rfl
@[simp] theorem tbl27 : look 27 tb = some ti27 := rfl
@[simp] theorem tbl28 : look 28 tb = some ti28 := rfl
@[simp] theorem tbl29 : look 29 tb = some ti29 := rfl
@[simp] theorem tbl30 : look 30 tb = some ti30 := rfl
@[simp] theorem tbl31 : look 31 tb = some ti31 := rfl
@[simp] theorem tbl32 : look 32 tb = some ti32 := rfl
@[simp] theorem tbl33 : look 33 tb = some ti33 := rfl
@[simp] theorem tbl34 : look 34 tb = some ti34 := rfl
@[simp] theorem tbl35 : look 35 tb = some ti35 := rfl
@[simp] theorem tbl36 : look 36 tb = some ti36 := rfl
@[simp] theorem tbl37 : look 37 tb = some ti37 := rfl
@[simp] theorem tbl38 : look 38 tb = some ti38 := rfl
@[simp] theorem tbl39 : look 39 tb = some ti39 := rfl
@[simp] theorem tbl40 : look 40 tb = some ti40 := rfl
@[simp] theorem tbl41 : look 41 tb = some ti41 := rfl
@[simp] theorem tbl42 : look 42 tb = some ti42 := rfl
@[simp] theorem tbl43 : look 43 tb = some ti43 := rfl
@[simp] theorem tbl44 : look 44 tb = some ti44 := rfl
@[simp] theorem tbl45 : look 45 tb = some ti45 := rfl
@[simp] theorem tbl46 : look 46 tb = some ti46 := rfl
@[simp] theorem tbl47 : look 47 tb = some ti47 := rfl
@[simp] theorem tbl48 : look 48 tb = some ti48 := rfl
@[simp] theorem tbl49 : look 49 tb = some ti49 := rfl
@[simp] theorem tbl50 : look 50 tb = some ti50 := rfl
@[simp] theorem tbl51 : look 51 tb = some ti51 := rfl
@[simp] theorem tbl52 : look 52 tb = some ti52 := rfl
@[simp] theorem tbl53 : look 53 tb = some ti53 := rfl
@[simp] theorem tbl54 : look 54 tb = some ti54 := rfl
@[simp] theorem tbl55 : look 55 tb = some ti55 := rfl
@[simp] theorem tbl56 : look 56 tb = some ti56 := rfl
@[simp] theorem tbl57 : look 57 tb = some ti57 := rfl
@[simp] theorem tbl58 : look 58 tb = some ti58 := rfl
@[simp] theorem tbl59 : look 59 tb = some ti59 := rfl
@[simp] theorem tbl60 : look 60 tb = some ti60 := rfl
@[simp] theorem tbl61 : look 61 tb = some ti61 := rfl
@[simp] theorem tbl62 : look 62 tb = some ti62 := rfl
@[simp] theorem tbl63 : look 63 tb = some ti63 := rfl
@[simp] theorem tbl64 : look 64 tb = some ti64 := rfl
@[simp] theorem tbl65 : look 65 tb = some ti65 := rfl
@[simp] theorem tbl66 : look 66 tb = some ti66 := rfl
@[simp] theorem tbl67 : look 67 tb = some ti67 := rfl
@[simp] theorem tbl68 : look 68 tb = some ti68 := rfl
@[simp] theorem tbl69 : look 69 tb = some ti69 := rfl
@[simp] theorem tbl70 : look 70 tb = some ti70 := rfl
@[simp] theorem tbl71 : look 71 tb = some ti71 := rfl
@[simp] theorem tbl72 : look 72 tb = some ti72 := rfl
@[simp] theorem tbl73 : look 73 tb = some ti73 := rfl
@[simp] theorem tbl74 : look 74 tb = some ti74 := rfl
@[simp] theorem tbl75 : look 75 tb = some ti75 := rfl
@[simp] theorem tbl76 : look 76 tb = some ti76 := rfl
@[simp] theorem tbl77 : look 77 tb = some ti77 := rfl
@[simp] theorem tbl78 : look 78 tb = some ti78 := rfl
@[simp] theorem tbl79 : look 79 tb = some ti79 := rfl
@[simp] theorem tbl80 : look 80 tb = some ti80 := rfl
@[simp] theorem tbl81 : look 81 tb = some ti81 := rfl
@[simp] theorem tbl82 : look 82 tb = some ti82 := rfl
@[simp] theorem tbl83 : look 83 tb = some ti83 := rfl
@[simp] theorem tbl84 : look 84 tb = some ti84 := rfl
@[simp] theorem tbl85 : look 85 tb = some ti85 := rfl
@[simp] theorem tbl86 : look 86 tb = some ti86 := rfl
@[simp] theorem tbl87 : look 87 tb = some ti87 := rfl
@[simp] theorem tbl88 : look 88 tb = some ti88 := rfl
@[simp] theorem tbl89 : look 89 tb = some ti89 := rfl
@[simp] theorem tbl90 : look 90 tb = some ti90 := rfl
@[simp] theorem tbl91 : look 91 tb = some ti91 := rfl
@[simp] theorem tbl92 : look 92 tb = some ti92 := rfl
@[simp] theorem tbl93 : look 93 tb = some ti93 := rfl
@[simp] theorem tbl94 : look 94 tb = some ti94 := rfl
@[simp] theorem tbl95 : look 95 tb = some ti95 := rfl
@[simp] theorem tbl96 : look 96 tb = some ti96 := rfl
@[simp] theorem tbl97 : look 97 tb = some ti97 := rfl
@[simp] theorem tbl98 : look 98 tb = some ti98 := rfl
@[simp] theorem tbl99 : look 99 tb = some ti99 := rfl
@[simp] theorem tbl100 : look 100 tb = some ti100 := rfl
@[simp] theorem tbl101 : look 101 tb = some ti101 := rfl
@[simp] theorem tbl102 : look 102 tb = some ti102 := rfl
@[simp] theorem tbl103 : look 103 tb = some ti103 := rfl
@[simp] theorem tbl104 : look 104 tb = some ti104 := rfl
@[simp] theorem tbl105 : look 105 tb = some ti105 := rfl
@[simp] theorem tbl106 : look 106 tb = some ti106 := rfl
@[simp] theorem tbl107 : look 107 tb = some ti107 := rfl
@[simp] theorem tbl108 : look 108 tb = some ti108 := rfl
@[simp] theorem tbl109 : look 109 tb = some ti109 := rfl
@[simp] theorem tbl110 : look 110 tb = some ti110 := rfl
@[simp] theorem tbl111 : look 111 tb = some ti111 := rfl
@[simp] theorem tbl112 : look 112 tb = some ti112 := rfl
@[simp] theorem tbl113 : look 113 tb = some ti113 := rfl
@[simp] theorem tbl114 : look 114 tb = some ti114 := rfl
@[simp] theorem tbl115 : look 115 tb = some ti115 := rfl
@[simp] theorem tbl116 : look 116 tb = some ti116 := rfl
@[simp] theorem tbl117 : look 117 tb = some ti117 := rfl
@[simp] theorem tbl118 : look 118 tb = some ti118 := rfl
@[simp] theorem tbl119 : look 119 tb = some ti119 := rfl
@[simp] theorem tbl120 : look 120 tb = some ti120 := rfl
@[simp] theorem tbl121 : look 121 tb = some ti121 := rfl
@[simp] theorem tbl122 : look 122 tb = some ti122 := rfl
@[simp] theorem tbl123 : look 123 tb = some ti123 := rfl
@[simp] theorem tbl124 : look 124 tb = some ti124 := rfl
@[simp] theorem tbl125 : look 125 tb = some ti125 := rfl
@[simp] theorem tbl126 : look 126 tb = some ti126 := rfl
@[simp] theorem tbl127 : look 127 tb = some ti127 := rfl
@[simp] theorem tbl128 : look 128 tb = some ti128 := rfl
@[simp] theorem tbl129 : look 129 tb = some ti129 := rfl
@[simp] theorem tbl130 : look 130 tb = some ti130 := rfl
@[simp] theorem tbl131 : look 131 tb = some ti131 := rfl
@[simp] theorem tbl132 : look 132 tb = some ti132 := rfl
@[simp] theorem tbl133 : look 133 tb = some ti133 := rfl
@[simp] theorem tbl134 : look 134 tb = some ti134 := rfl
@[simp] theorem tbl135 : look 135 tb = some ti135 := rfl
@[simp] theorem tbl136 : look 136 tb = some ti136 := rfl
@[simp] theorem tbl137 : look 137 tb = some ti137 := rfl
@[simp] theorem tbl138 : look 138 tb = some ti138 := rfl
@[simp] theorem tbl139 : look 139 tb = some ti139 := rfl
@[simp] theorem tbl140 : look 140 tb = some ti140 := rfl
@[simp] theorem tbl141 : look 141 tb = some ti141 := rfl
@[simp] theorem tbl142 : look 142 tb = some ti142 := rfl
@[simp] theorem tbl143 : look 143 tb = some ti143 := rfl
@[simp] theorem tbl144 : look 144 tb = some ti144 := rfl
@[simp] theorem tbl145 : look 145 tb = some ti145 := rfl
@[simp] theorem tbl146 : look 146 tb = some ti146 := rfl
@[simp] theorem tbl147 : look 147 tb = some ti147 := rfl
@[simp] theorem tbl148 : look 148 tb = some ti148 := rfl
@[simp] theorem tbl149 : look 149 tb = some ti149 := rfl
@[simp] theorem tbl150 : look 150 tb = some ti150 := rfl
@[simp] theorem tbl151 : look 151 tb = some ti151 := rfl
@[simp] theorem tbl152 : look 152 tb = some ti152 := rfl
@[simp] theorem tbl153 : look 153 tb = some ti153 := rfl
@[simp] theorem tbl154 : look 154 tb = some ti154 := rfl
@[simp] theorem tbl155 : look 155 tb = some ti155 := rfl
@[simp] theorem tbl156 : look 156 tb = some ti156 := rfl
@[simp] theorem tbl157 : look 157 tb = some ti157 := rfl
@[simp] theorem tbl158 : look 158 tb = some ti158 := rfl
@[simp] theorem tbl159 : look 159 tb = some ti159 := rfl
@[simp] theorem tbl160 : look 160 tb = some ti160 := rfl
@[simp] theorem tbl161 : look 161 tb = some ti161 := rfl
@[simp] theorem tbl162 : look 162 tb = some ti162 := rfl
@[simp] theorem tbl163 : look 163 tb = some ti163 := rfl
@[simp] theorem tbl164 : look 164 tb = some ti164 := rfl
@[simp] theorem tbl165 : look 165 tb = some ti165 := rfl
@[simp] theorem tbl166 : look 166 tb = some ti166 := rfl
@[simp] theorem tbl167 : look 167 tb = some ti167 := rfl
@[simp] theorem tbl168 : look 168 tb = some ti168 := rfl
@[simp] theorem tbl169 : look 169 tb = some ti169 := rfl
@[simp] theorem tbl170 : look 170 tb = some ti170 := rfl
@[simp] theorem tbl171 : look 171 tb = some ti171 := rfl
@[simp] theorem tbl172 : look 172 tb = some ti172 := rfl
@[simp] theorem tbl173 : look 173 tb = some ti173 := rfl
@[simp] theorem tbl174 : look 174 tb = some ti174 := rfl
@[simp] theorem tbl175 : look 175 tb = some ti175 := rfl
@[simp] theorem tbl176 : look 176 tb = some ti176 := rfl
@[simp] theorem tbl177 : look 177 tb = some ti177 := rfl
@[simp] theorem tbl178 : look 178 tb = some ti178 := rfl
@[simp] theorem tbl179 : look 179 tb = some ti179 := rfl
@[simp] theorem tbl180 : look 180 tb = some ti180 := rfl
@[simp] theorem tbl181 : look 181 tb = some ti181 := rfl
@[simp] theorem tbl182 : look 182 tb = some ti182 := rfl
@[simp] theorem tbl183 : look 183 tb = some ti183 := rfl
@[simp] theorem tbl184 : look 184 tb = some ti184 := rfl
@[simp] theorem tbl185 : look 185 tb = some ti185 := rfl
@[simp] theorem tbl186 : look 186 tb = some ti186 := rfl
@[simp] theorem tbl187 : look 187 tb = some ti187 := rfl
@[simp] theorem tbl188 : look 188 tb = some ti188 := rfl
@[simp] theorem tbl189 : look 189 tb = some ti189 := rfl
@[simp] theorem tbl190 : look 190 tb = some ti190 := rfl
@[simp] theorem tbl191 : look 191 tb = some ti191 := rfl
@[simp] theorem tbl192 : look 192 tb = some ti192 := rfl
@[simp] theorem tbl193 : look 193 tb = some ti193 := rfl
@[simp] theorem tbl194 : look 194 tb = some ti194 := rfl
@[simp] theorem tbl195 : look 195 tb = some ti195 := rfl
@[simp] theorem tbl196 : look 196 tb = some ti196 := rfl
@[simp] theorem tbl197 : look 197 tb = some ti197 := rfl
@[simp] theorem tbl198 : look 198 tb = some ti198 := rfl
@[simp] theorem tbl199 : look 199 tb = some ti199 := rfl
@[simp] theorem tbl200 : look 200 tb = some ti200 := rfl
@[simp] theorem tbl201 : look 201 tb = some ti201 := rfl
@[simp] theorem tbl202 : look 202 tb = some ti202 := rfl
@[simp] theorem tbl203 : look 203 tb = some ti203 := rfl
@[simp] theorem tbl204 : look 204 tb = some ti204 := rfl
@[simp] theorem tbl205 : look 205 tb = some ti205 := rfl
end Go.Proofs.YtplooifpgmlofaaGreat
