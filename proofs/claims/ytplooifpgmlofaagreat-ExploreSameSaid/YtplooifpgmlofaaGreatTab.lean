/- The types of this seat, and that they are the program's. No condition. -/
import Derived.Test.YtplooifpgmlofaaGreatProg
import Derived.Test.YtplooifpgmlofaaGreatV19
namespace Go.Proofs.YtplooifpgmlofaaGreat
open Go.RowKit
set_option maxRecDepth 20000
def ti0 : TI := ⟨(TypeDesc.tuple #[]), 1, 0, [.tuple #[]], false, [34, 37, 38, 39, 50, 58], []⟩
theorem tio0 : TIOk Tryz.prog (0, ti0) := ⟨by kernel_rfl, by kernel_rfl, by kernel_rfl, nofun, trivial⟩
def ti1 : TI := ⟨(TypeDesc.func #[] #[] false), 1, 8, [.nilFunc], false, [], []⟩
theorem tio1 : TIOk Tryz.prog (1, ti1) := ⟨by kernel_rfl, by kernel_rfl, by kernel_rfl, nofun, trivial⟩
def ti2 : TI := ⟨(TypeDesc.int IntKind.i64), 1, 8, [.int .i64 0], false, [], []⟩
theorem tio2 : TIOk Tryz.prog (2, ti2) := ⟨by kernel_rfl, by kernel_rfl, by kernel_rfl, nofun, trivial⟩
def ti3 : TI := ⟨(TypeDesc.int IntKind.i64), 1, 8, [.int .i64 0], false, [], []⟩
theorem tio3 : TIOk Tryz.prog (3, ti3) := ⟨by kernel_rfl, by kernel_rfl, by kernel_rfl, nofun, trivial⟩
def ti4 : TI := ⟨TypeDesc.bool, 1, 1, [.bool false], false, [], []⟩
theorem tio4 : TIOk Tryz.prog (4, ti4) := ⟨by kernel_rfl, by kernel_rfl, by kernel_rfl, nofun, trivial⟩
def ti5 : TI := ⟨(TypeDesc.int IntKind.u8), 1, 1, [.int .u8 0], false, [], []⟩
theorem tio5 : TIOk Tryz.prog (5, ti5) := ⟨by kernel_rfl, by kernel_rfl, by kernel_rfl, nofun, trivial⟩
def ti6 : TI := ⟨(TypeDesc.int IntKind.u8), 1, 1, [.int .u8 0], false, [], []⟩
theorem tio6 : TIOk Tryz.prog (6, ti6) := ⟨by kernel_rfl, by kernel_rfl, by kernel_rfl, nofun, trivial⟩
def ti7 : TI := ⟨(TypeDesc.struct #[{ name := "x", type := 2, offset := 0, embedded := false, tag := "", pkgPath := "runtime", byteOffset := 0 }, { name := "y", type := 3, offset := 1, embedded := false, tag := "", pkgPath := "runtime", byteOffset := 8 }, { name := "signed", type := 4, offset := 2, embedded := false, tag := "", pkgPath := "runtime", byteOffset := 16 }, { name := "code", type := 6, offset := 3, embedded := false, tag := "", pkgPath := "runtime", byteOffset := 17 }]), 4, 24, [.int .i64 0, .int .i64 0, .bool false, .int .u8 0], true, [], []⟩
theorem tio7 : TIOk Tryz.prog (7, ti7) := ⟨by kernel_rfl, by kernel_rfl, by kernel_rfl, fun _ => ⟨by kernel_rfl, by kernel_rfl⟩, trivial⟩
def ti8 : TI := ⟨(TypeDesc.struct #[{ name := "x", type := 2, offset := 0, embedded := false, tag := "", pkgPath := "runtime", byteOffset := 0 }, { name := "y", type := 3, offset := 1, embedded := false, tag := "", pkgPath := "runtime", byteOffset := 8 }, { name := "signed", type := 4, offset := 2, embedded := false, tag := "", pkgPath := "runtime", byteOffset := 16 }, { name := "code", type := 6, offset := 3, embedded := false, tag := "", pkgPath := "runtime", byteOffset := 17 }]), 4, 24, [.int .i64 0, .int .i64 0, .bool false, .int .u8 0], true, [], []⟩
theorem tio8 : TIOk Tryz.prog (8, ti8) := ⟨by kernel_rfl, by kernel_rfl, by kernel_rfl, fun _ => ⟨by kernel_rfl, by kernel_rfl⟩, trivial⟩
def ti9 : TI := ⟨TypeDesc.string, 1, 16, [.string { data := #[] }], false, [], []⟩
theorem tio9 : TIOk Tryz.prog (9, ti9) := ⟨by kernel_rfl, by kernel_rfl, by kernel_rfl, nofun, trivial⟩
def ti10 : TI := ⟨TypeDesc.string, 1, 16, [.string { data := #[] }], false, [], []⟩
theorem tio10 : TIOk Tryz.prog (10, ti10) := ⟨by kernel_rfl, by kernel_rfl, by kernel_rfl, nofun, trivial⟩
def ti22 : TI := ⟨(TypeDesc.slice 140), 1, 24, [.slice none 0 0], false, [], []⟩
theorem tio22 : TIOk Tryz.prog (22, ti22) := ⟨by kernel_rfl, by kernel_rfl, by kernel_rfl, nofun, trivial⟩
def ti23 : TI := ⟨(TypeDesc.slice 69), 1, 24, [.slice none 0 0], false, [], []⟩
theorem tio23 : TIOk Tryz.prog (23, ti23) := ⟨by kernel_rfl, by kernel_rfl, by kernel_rfl, nofun, trivial⟩
def ti24 : TI := ⟨(TypeDesc.slice 3), 1, 24, [.slice none 0 0], false, [], []⟩
theorem tio24 : TIOk Tryz.prog (24, ti24) := ⟨by kernel_rfl, by kernel_rfl, by kernel_rfl, nofun, trivial⟩
def ti26 : TI := ⟨(TypeDesc.struct #[{ name := "Locks", type := 22, offset := 0, embedded := false, tag := "", pkgPath := "", byteOffset := 0 }, { name := "Queues", type := 23, offset := 1, embedded := false, tag := "", pkgPath := "", byteOffset := 24 }, { name := "Groups", type := 24, offset := 2, embedded := false, tag := "", pkgPath := "", byteOffset := 48 }]), 3, 72, [.slice none 0 0, .slice none 0 0, .slice none 0 0], true, [], []⟩
theorem tio26 : TIOk Tryz.prog (26, ti26) := ⟨by kernel_rfl, by kernel_rfl, by kernel_rfl, fun _ => ⟨by kernel_rfl, by kernel_rfl⟩, trivial⟩
def ti27 : TI := ⟨(TypeDesc.slice 64), 1, 24, [.slice none 0 0], false, [], []⟩
theorem tio27 : TIOk Tryz.prog (27, ti27) := ⟨by kernel_rfl, by kernel_rfl, by kernel_rfl, nofun, trivial⟩
def ti29 : TI := ⟨(TypeDesc.struct #[{ name := "S", type := 26, offset := 0, embedded := false, tag := "", pkgPath := "", byteOffset := 0 }, { name := "Programs", type := 27, offset := 3, embedded := false, tag := "", pkgPath := "", byteOffset := 72 }]), 4, 96, [.slice none 0 0, .slice none 0 0, .slice none 0 0, .slice none 0 0], true, [], []⟩
theorem tio29 : TIOk Tryz.prog (29, ti29) := ⟨by kernel_rfl, by kernel_rfl, by kernel_rfl, fun _ => ⟨by kernel_rfl, by kernel_rfl⟩, trivial⟩
def ti32 : TI := ⟨(TypeDesc.slice 9), 1, 24, [.slice none 0 0], false, [], []⟩
theorem tio32 : TIOk Tryz.prog (32, ti32) := ⟨by kernel_rfl, by kernel_rfl, by kernel_rfl, nofun, trivial⟩
def ti34 : TI := ⟨(TypeDesc.struct #[{ name := "Runs", type := 3, offset := 0, embedded := false, tag := "", pkgPath := "", byteOffset := 0 }, { name := "Stuck", type := 3, offset := 1, embedded := false, tag := "", pkgPath := "", byteOffset := 8 }, { name := "Outcomes", type := 32, offset := 2, embedded := false, tag := "", pkgPath := "", byteOffset := 16 }, { name := "Full", type := 4, offset := 3, embedded := false, tag := "", pkgPath := "", byteOffset := 40 }]), 4, 48, [.int .i64 0, .int .i64 0, .slice none 0 0, .bool false], true, [], []⟩
theorem tio34 : TIOk Tryz.prog (34, ti34) := ⟨by kernel_rfl, by kernel_rfl, by kernel_rfl, fun _ => ⟨by kernel_rfl, by kernel_rfl⟩, trivial⟩
def ti35 : TI := ⟨(TypeDesc.int IntKind.i64), 1, 8, [.int .i64 0], false, [], []⟩
theorem tio35 : TIOk Tryz.prog (35, ti35) := ⟨by kernel_rfl, by kernel_rfl, by kernel_rfl, nofun, trivial⟩
def ti36 : TI := ⟨(TypeDesc.tuple #[34, 35]), 1, 0, [.tuple { toList := [.agg { toList := [.int .i64 0, .int .i64 0, .slice none 0 0, .bool false] }, .int .i64 0] }], false, [], []⟩
theorem tio36 : TIOk Tryz.prog (36, ti36) := ⟨by kernel_rfl, by kernel_rfl, by kernel_rfl, nofun, trivial⟩
def ti38 : TI := ⟨(TypeDesc.pointer 43), 1, 8, [.pointer none], false, [], [("Done", 74), ("Enabled", 52), ("Footprint", 29), ("Outcome", 53), ("Start", 28), ("Step", 30)]⟩
theorem tio38 : TIOk Tryz.prog (38, ti38) := ⟨by kernel_rfl, by kernel_rfl, by kernel_rfl, nofun, ⟨fun _ _ => by kernel_rfl, fun _ _ => by kernel_rfl, fun _ _ => by kernel_rfl, fun _ _ => by kernel_rfl, fun _ _ => by kernel_rfl, fun _ _ => by kernel_rfl, trivial⟩⟩
def ti39 : TI := ⟨(TypeDesc.pointer 115), 1, 8, [.pointer none], false, [], []⟩
theorem tio39 : TIOk Tryz.prog (39, ti39) := ⟨by kernel_rfl, by kernel_rfl, by kernel_rfl, nofun, trivial⟩
def ti40 : TI := ⟨(TypeDesc.slice 128), 1, 24, [.slice none 0 0], false, [], []⟩
theorem tio40 : TIOk Tryz.prog (40, ti40) := ⟨by kernel_rfl, by kernel_rfl, by kernel_rfl, nofun, trivial⟩
def ti41 : TI := ⟨(TypeDesc.slice 130), 1, 24, [.slice none 0 0], false, [], []⟩
theorem tio41 : TIOk Tryz.prog (41, ti41) := ⟨by kernel_rfl, by kernel_rfl, by kernel_rfl, nofun, trivial⟩
def ti43 : TI := ⟨(TypeDesc.struct #[{ name := "X", type := 29, offset := 0, embedded := false, tag := "", pkgPath := "", byteOffset := 0 }, { name := "b", type := 39, offset := 4, embedded := false, tag := "", pkgPath := "spillway/spillwayref33", byteOffset := 96 }, { name := "tasks", type := 40, offset := 5, embedded := false, tag := "", pkgPath := "spillway/spillwayref33", byteOffset := 104 }, { name := "waits", type := 41, offset := 6, embedded := false, tag := "", pkgPath := "spillway/spillwayref33", byteOffset := 128 }]), 7, 152, [.slice none 0 0, .slice none 0 0, .slice none 0 0, .slice none 0 0, .pointer none, .slice none 0 0, .slice none 0 0], true, [], []⟩
theorem tio43 : TIOk Tryz.prog (43, ti43) := ⟨by kernel_rfl, by kernel_rfl, by kernel_rfl, fun _ => ⟨by kernel_rfl, by kernel_rfl⟩, trivial⟩
def ti44 : TI := ⟨(TypeDesc.slice 24), 1, 24, [.slice none 0 0], false, [], []⟩
theorem tio44 : TIOk Tryz.prog (44, ti44) := ⟨by kernel_rfl, by kernel_rfl, by kernel_rfl, nofun, trivial⟩
def ti46 : TI := ⟨(TypeDesc.pointer 48), 1, 8, [.pointer none], false, [], []⟩
theorem tio46 : TIOk Tryz.prog (46, ti46) := ⟨by kernel_rfl, by kernel_rfl, by kernel_rfl, nofun, trivial⟩
def ti48 : TI := ⟨(TypeDesc.struct #[{ name := "Player", type := 43, offset := 0, embedded := true, tag := "", pkgPath := "", byteOffset := 0 }, { name := "at", type := 24, offset := 7, embedded := false, tag := "", pkgPath := "spillway/spillwaylaw33", byteOffset := 152 }, { name := "runs", type := 44, offset := 8, embedded := false, tag := "", pkgPath := "spillway/spillwaylaw33", byteOffset := 176 }]), 9, 200, [.slice none 0 0, .slice none 0 0, .slice none 0 0, .slice none 0 0, .pointer none, .slice none 0 0, .slice none 0 0, .slice none 0 0, .slice none 0 0], true, [], []⟩
theorem tio48 : TIOk Tryz.prog (48, ti48) := ⟨by kernel_rfl, by kernel_rfl, by kernel_rfl, fun _ => ⟨by kernel_rfl, by kernel_rfl⟩, trivial⟩
def ti51 : TI := ⟨(TypeDesc.tuple #[24, 35]), 1, 0, [.tuple { toList := [.slice none 0 0, .int .i64 0] }], false, [], []⟩
theorem tio51 : TIOk Tryz.prog (51, ti51) := ⟨by kernel_rfl, by kernel_rfl, by kernel_rfl, nofun, trivial⟩
def ti56 : TI := ⟨(TypeDesc.func #[9] #[4] false), 1, 8, [.nilFunc], false, [], []⟩
theorem tio56 : TIOk Tryz.prog (56, ti56) := ⟨by kernel_rfl, by kernel_rfl, by kernel_rfl, nofun, trivial⟩
def ti59 : TI := ⟨(TypeDesc.tuple #[9, 3, 35]), 1, 0, [.tuple { toList := [.string { data := #[] }, .int .i64 0, .int .i64 0] }], false, [], []⟩
theorem tio59 : TIOk Tryz.prog (59, ti59) := ⟨by kernel_rfl, by kernel_rfl, by kernel_rfl, nofun, trivial⟩
def ti62 : TI := ⟨(TypeDesc.slice 66), 1, 24, [.slice none 0 0], false, [], []⟩
theorem tio62 : TIOk Tryz.prog (62, ti62) := ⟨by kernel_rfl, by kernel_rfl, by kernel_rfl, nofun, trivial⟩
def ti64 : TI := ⟨(TypeDesc.struct #[{ name := "Ops", type := 62, offset := 0, embedded := false, tag := "", pkgPath := "", byteOffset := 0 }]), 1, 24, [.slice none 0 0], true, [], []⟩
theorem tio64 : TIOk Tryz.prog (64, ti64) := ⟨by kernel_rfl, by kernel_rfl, by kernel_rfl, fun _ => ⟨by kernel_rfl, by kernel_rfl⟩, trivial⟩
def ti66 : TI := ⟨(TypeDesc.struct #[{ name := "Op", type := 3, offset := 0, embedded := false, tag := "", pkgPath := "", byteOffset := 0 }, { name := "Object", type := 3, offset := 1, embedded := false, tag := "", pkgPath := "", byteOffset := 8 }, { name := "Value", type := 2, offset := 2, embedded := false, tag := "", pkgPath := "", byteOffset := 16 }]), 3, 24, [.int .i64 0, .int .i64 0, .int .i64 0], true, [], []⟩
theorem tio66 : TIOk Tryz.prog (66, ti66) := ⟨by kernel_rfl, by kernel_rfl, by kernel_rfl, fun _ => ⟨by kernel_rfl, by kernel_rfl⟩, trivial⟩
def ti67 : TI := ⟨(TypeDesc.slice 2), 1, 24, [.slice none 0 0], false, [], []⟩
theorem tio67 : TIOk Tryz.prog (67, ti67) := ⟨by kernel_rfl, by kernel_rfl, by kernel_rfl, nofun, trivial⟩
def ti69 : TI := ⟨(TypeDesc.struct #[{ name := "Room", type := 3, offset := 0, embedded := false, tag := "", pkgPath := "", byteOffset := 0 }, { name := "Items", type := 67, offset := 1, embedded := false, tag := "", pkgPath := "", byteOffset := 8 }, { name := "Shut", type := 4, offset := 2, embedded := false, tag := "", pkgPath := "", byteOffset := 32 }]), 3, 40, [.int .i64 0, .slice none 0 0, .bool false], true, [], []⟩
theorem tio69 : TIOk Tryz.prog (69, ti69) := ⟨by kernel_rfl, by kernel_rfl, by kernel_rfl, fun _ => ⟨by kernel_rfl, by kernel_rfl⟩, trivial⟩
def ti70 : TI := ⟨(TypeDesc.tuple #[39, 35]), 1, 0, [.tuple { toList := [.pointer none, .int .i64 0] }], false, [], []⟩
theorem tio70 : TIOk Tryz.prog (70, ti70) := ⟨by kernel_rfl, by kernel_rfl, by kernel_rfl, nofun, trivial⟩
def ti72 : TI := ⟨(TypeDesc.pointer 75), 1, 8, [.pointer none], false, [], [("Done", 125), ("Enabled", 126), ("Footprint", 127), ("Outcome", 128), ("Start", 129), ("Step", 130)]⟩
theorem tio72 : TIOk Tryz.prog (72, ti72) := ⟨by kernel_rfl, by kernel_rfl, by kernel_rfl, nofun, ⟨fun _ _ => by kernel_rfl, fun _ _ => by kernel_rfl, fun _ _ => by kernel_rfl, fun _ _ => by kernel_rfl, fun _ _ => by kernel_rfl, fun _ _ => by kernel_rfl, trivial⟩⟩
def ti73 : TI := ⟨(TypeDesc.array 3 3), 3, 24, [.int .i64 0, .int .i64 0, .int .i64 0], false, [], []⟩
theorem tio73 : TIOk Tryz.prog (73, ti73) := ⟨by kernel_rfl, by kernel_rfl, by kernel_rfl, nofun, trivial⟩
def ti75 : TI := ⟨(TypeDesc.struct #[{ name := "sum", type := 3, offset := 0, embedded := false, tag := "", pkgPath := "spillway/spillwaylaw33", byteOffset := 0 }, { name := "pc", type := 73, offset := 1, embedded := false, tag := "", pkgPath := "spillway/spillwaylaw33", byteOffset := 8 }, { name := "read", type := 73, offset := 4, embedded := false, tag := "", pkgPath := "spillway/spillwaylaw33", byteOffset := 32 }]), 7, 56, [.int .i64 0, .int .i64 0, .int .i64 0, .int .i64 0, .int .i64 0, .int .i64 0, .int .i64 0], true, [], []⟩
theorem tio75 : TIOk Tryz.prog (75, ti75) := ⟨by kernel_rfl, by kernel_rfl, by kernel_rfl, fun _ => ⟨by kernel_rfl, by kernel_rfl⟩, trivial⟩
def ti79 : TI := ⟨(TypeDesc.pointer 81), 1, 8, [.pointer none], false, [], []⟩
theorem tio79 : TIOk Tryz.prog (79, ti79) := ⟨by kernel_rfl, by kernel_rfl, by kernel_rfl, nofun, trivial⟩
def ti81 : TI := ⟨(TypeDesc.struct #[{ name := "p", type := 38, offset := 0, embedded := false, tag := "", pkgPath := "spillway/spillwayref33", byteOffset := 0 }, { name := "most", type := 3, offset := 1, embedded := false, tag := "", pkgPath := "spillway/spillwayref33", byteOffset := 8 }, { name := "switches", type := 3, offset := 2, embedded := false, tag := "", pkgPath := "spillway/spillwayref33", byteOffset := 16 }, { name := "sleeps", type := 4, offset := 3, embedded := false, tag := "", pkgPath := "spillway/spillwayref33", byteOffset := 24 }, { name := "over", type := 4, offset := 4, embedded := false, tag := "", pkgPath := "spillway/spillwayref33", byteOffset := 25 }, { name := "asks", type := 4, offset := 5, embedded := false, tag := "", pkgPath := "spillway/spillwayref33", byteOffset := 26 }, { name := "wanted", type := 9, offset := 6, embedded := false, tag := "", pkgPath := "spillway/spillwayref33", byteOffset := 32 }, { name := "run", type := 24, offset := 7, embedded := false, tag := "", pkgPath := "spillway/spillwayref33", byteOffset := 48 }, { name := "found", type := 4, offset := 8, embedded := false, tag := "", pkgPath := "spillway/spillwayref33", byteOffset := 72 }, { name := "runs", type := 44, offset := 9, embedded := false, tag := "", pkgPath := "spillway/spillwayref33", byteOffset := 80 }, { name := "out", type := 34, offset := 10, embedded := false, tag := "", pkgPath := "spillway/spillwayref33", byteOffset := 104 }]), 14, 152, [.pointer none, .int .i64 0, .int .i64 0, .bool false, .bool false, .bool false, .string { data := #[] }, .slice none 0 0, .bool false, .slice none 0 0, .int .i64 0, .int .i64 0, .slice none 0 0, .bool false], true, [], []⟩
theorem tio81 : TIOk Tryz.prog (81, ti81) := ⟨by kernel_rfl, by kernel_rfl, by kernel_rfl, fun _ => ⟨by kernel_rfl, by kernel_rfl⟩, trivial⟩
def ti83 : TI := ⟨(TypeDesc.interface #[("Done", 31), ("Enabled", 99), ("Footprint", 92), ("Outcome", 109), ("Start", 1), ("Step", 95)]), 1, 16, [.nilIface], false, [], []⟩
theorem tio83 : TIOk Tryz.prog (83, ti83) := ⟨by kernel_rfl, by kernel_rfl, by kernel_rfl, nofun, trivial⟩
def ti86 : TI := ⟨(TypeDesc.func #[9, 24] #[4] false), 1, 8, [.nilFunc], false, [], []⟩
theorem tio86 : TIOk Tryz.prog (86, ti86) := ⟨by kernel_rfl, by kernel_rfl, by kernel_rfl, nofun, trivial⟩
def ti88 : TI := ⟨(TypeDesc.struct #[{ name := "most", type := 3, offset := 0, embedded := false, tag := "", pkgPath := "spillway/explore", byteOffset := 0 }, { name := "switches", type := 3, offset := 1, embedded := false, tag := "", pkgPath := "spillway/explore", byteOffset := 8 }, { name := "sleeps", type := 4, offset := 2, embedded := false, tag := "", pkgPath := "spillway/explore", byteOffset := 16 }, { name := "tell", type := 86, offset := 3, embedded := false, tag := "", pkgPath := "spillway/explore", byteOffset := 24 }]), 4, 32, [.int .i64 0, .int .i64 0, .bool false, .nilFunc], true, [], []⟩
theorem tio88 : TIOk Tryz.prog (88, ti88) := ⟨by kernel_rfl, by kernel_rfl, by kernel_rfl, fun _ => ⟨by kernel_rfl, by kernel_rfl⟩, trivial⟩
def ti90 : TI := ⟨(TypeDesc.slice 94), 1, 24, [.slice none 0 0], false, [], []⟩
theorem tio90 : TIOk Tryz.prog (90, ti90) := ⟨by kernel_rfl, by kernel_rfl, by kernel_rfl, nofun, trivial⟩
def ti91 : TI := ⟨(TypeDesc.slice 102), 1, 24, [.slice none 0 0], false, [], []⟩
theorem tio91 : TIOk Tryz.prog (91, ti91) := ⟨by kernel_rfl, by kernel_rfl, by kernel_rfl, nofun, trivial⟩
def ti94 : TI := ⟨(TypeDesc.struct #[{ name := "task", type := 3, offset := 0, embedded := false, tag := "", pkgPath := "spillway/spillwayref33", byteOffset := 0 }, { name := "uses", type := 91, offset := 1, embedded := false, tag := "", pkgPath := "spillway/spillwayref33", byteOffset := 8 }]), 2, 32, [.int .i64 0, .slice none 0 0], true, [], []⟩
theorem tio94 : TIOk Tryz.prog (94, ti94) := ⟨by kernel_rfl, by kernel_rfl, by kernel_rfl, fun _ => ⟨by kernel_rfl, by kernel_rfl⟩, trivial⟩
def ti97 : TI := ⟨(TypeDesc.slice 104), 1, 24, [.slice none 0 0], false, [], []⟩
theorem tio97 : TIOk Tryz.prog (97, ti97) := ⟨by kernel_rfl, by kernel_rfl, by kernel_rfl, nofun, trivial⟩
def ti102 : TI := ⟨(TypeDesc.struct #[{ name := "Object", type := 2, offset := 0, embedded := false, tag := "", pkgPath := "", byteOffset := 0 }, { name := "Write", type := 4, offset := 1, embedded := false, tag := "", pkgPath := "", byteOffset := 8 }]), 2, 16, [.int .i64 0, .bool false], true, [], []⟩
theorem tio102 : TIOk Tryz.prog (102, ti102) := ⟨by kernel_rfl, by kernel_rfl, by kernel_rfl, fun _ => ⟨by kernel_rfl, by kernel_rfl⟩, trivial⟩
def ti104 : TI := ⟨(TypeDesc.struct #[{ name := "task", type := 3, offset := 0, embedded := false, tag := "", pkgPath := "spillway/explore", byteOffset := 0 }, { name := "uses", type := 91, offset := 1, embedded := false, tag := "", pkgPath := "spillway/explore", byteOffset := 8 }]), 2, 32, [.int .i64 0, .slice none 0 0], true, [], []⟩
theorem tio104 : TIOk Tryz.prog (104, ti104) := ⟨by kernel_rfl, by kernel_rfl, by kernel_rfl, fun _ => ⟨by kernel_rfl, by kernel_rfl⟩, trivial⟩
def ti106 : TI := ⟨(TypeDesc.func #[104] #[4] false), 1, 8, [.nilFunc], false, [], []⟩
theorem tio106 : TIOk Tryz.prog (106, ti106) := ⟨by kernel_rfl, by kernel_rfl, by kernel_rfl, nofun, trivial⟩
def ti113 : TI := ⟨(TypeDesc.slice 149), 1, 24, [.slice none 0 0], false, [], []⟩
theorem tio113 : TIOk Tryz.prog (113, ti113) := ⟨by kernel_rfl, by kernel_rfl, by kernel_rfl, nofun, trivial⟩
def ti115 : TI := ⟨(TypeDesc.struct #[{ name := "S", type := 26, offset := 0, embedded := false, tag := "", pkgPath := "", byteOffset := 0 }, { name := "Now", type := 2, offset := 3, embedded := false, tag := "", pkgPath := "", byteOffset := 72 }, { name := "Programs", type := 27, offset := 4, embedded := false, tag := "", pkgPath := "", byteOffset := 80 }, { name := "Records", type := 113, offset := 5, embedded := false, tag := "", pkgPath := "", byteOffset := 104 }]), 6, 128, [.slice none 0 0, .slice none 0 0, .slice none 0 0, .int .i64 0, .slice none 0 0, .slice none 0 0], true, [], []⟩
theorem tio115 : TIOk Tryz.prog (115, ti115) := ⟨by kernel_rfl, by kernel_rfl, by kernel_rfl, fun _ => ⟨by kernel_rfl, by kernel_rfl⟩, trivial⟩
def ti117 : TI := ⟨(TypeDesc.pointer 120), 1, 8, [.pointer none], false, [], []⟩
theorem tio117 : TIOk Tryz.prog (117, ti117) := ⟨by kernel_rfl, by kernel_rfl, by kernel_rfl, nofun, trivial⟩
def ti118 : TI := ⟨(TypeDesc.map 9 4), 1, 8, [.map none], false, [], []⟩
theorem tio118 : TIOk Tryz.prog (118, ti118) := ⟨by kernel_rfl, by kernel_rfl, by kernel_rfl, nofun, trivial⟩
def ti120 : TI := ⟨(TypeDesc.struct #[{ name := "plan", type := 88, offset := 0, embedded := true, tag := "", pkgPath := "spillway/explore", byteOffset := 0 }, { name := "player", type := 83, offset := 4, embedded := false, tag := "", pkgPath := "spillway/explore", byteOffset := 32 }, { name := "picks", type := 24, offset := 5, embedded := false, tag := "", pkgPath := "spillway/explore", byteOffset := 48 }, { name := "out", type := 34, offset := 6, embedded := false, tag := "", pkgPath := "spillway/explore", byteOffset := 72 }, { name := "outcomes", type := 118, offset := 10, embedded := false, tag := "", pkgPath := "spillway/explore", byteOffset := 120 }, { name := "enough", type := 4, offset := 11, embedded := false, tag := "", pkgPath := "spillway/explore", byteOffset := 128 }]), 12, 136, [.int .i64 0, .int .i64 0, .bool false, .nilFunc, .nilIface, .slice none 0 0, .int .i64 0, .int .i64 0, .slice none 0 0, .bool false, .map none, .bool false], false, [], []⟩
theorem tio120 : TIOk Tryz.prog (120, ti120) := ⟨by kernel_rfl, by kernel_rfl, by kernel_rfl, nofun, trivial⟩
def ti121 : TI := ⟨(TypeDesc.func #[97, 3] #[] false), 1, 8, [.nilFunc], false, [], []⟩
theorem tio121 : TIOk Tryz.prog (121, ti121) := ⟨by kernel_rfl, by kernel_rfl, by kernel_rfl, nofun, trivial⟩
def ti128 : TI := ⟨(TypeDesc.struct #[{ name := "Id", type := 3, offset := 0, embedded := false, tag := "", pkgPath := "", byteOffset := 0 }, { name := "Kind", type := 3, offset := 1, embedded := false, tag := "", pkgPath := "", byteOffset := 8 }, { name := "Pc", type := 3, offset := 2, embedded := false, tag := "", pkgPath := "", byteOffset := 16 }, { name := "A", type := 2, offset := 3, embedded := false, tag := "", pkgPath := "", byteOffset := 24 }, { name := "B", type := 2, offset := 4, embedded := false, tag := "", pkgPath := "", byteOffset := 32 }, { name := "C", type := 2, offset := 5, embedded := false, tag := "", pkgPath := "", byteOffset := 40 }, { name := "D", type := 2, offset := 6, embedded := false, tag := "", pkgPath := "", byteOffset := 48 }]), 7, 56, [.int .i64 0, .int .i64 0, .int .i64 0, .int .i64 0, .int .i64 0, .int .i64 0, .int .i64 0], true, [], []⟩
theorem tio128 : TIOk Tryz.prog (128, ti128) := ⟨by kernel_rfl, by kernel_rfl, by kernel_rfl, fun _ => ⟨by kernel_rfl, by kernel_rfl⟩, trivial⟩
def ti130 : TI := ⟨(TypeDesc.struct #[{ name := "Kind", type := 3, offset := 0, embedded := false, tag := "", pkgPath := "", byteOffset := 0 }, { name := "Object", type := 2, offset := 1, embedded := false, tag := "", pkgPath := "", byteOffset := 8 }, { name := "Until", type := 2, offset := 2, embedded := false, tag := "", pkgPath := "", byteOffset := 16 }]), 3, 24, [.int .i64 0, .int .i64 0, .int .i64 0], true, [], []⟩
theorem tio130 : TIOk Tryz.prog (130, ti130) := ⟨by kernel_rfl, by kernel_rfl, by kernel_rfl, fun _ => ⟨by kernel_rfl, by kernel_rfl⟩, trivial⟩
def ti131 : TI := ⟨(TypeDesc.tuple #[128, 130, 40]), 1, 0, [.tuple { toList := [.agg { toList := [.int .i64 0, .int .i64 0, .int .i64 0, .int .i64 0, .int .i64 0, .int .i64 0, .int .i64 0] }, .agg { toList := [.int .i64 0, .int .i64 0, .int .i64 0] }, .slice none 0 0] }], false, [], []⟩
theorem tio131 : TIOk Tryz.prog (131, ti131) := ⟨by kernel_rfl, by kernel_rfl, by kernel_rfl, nofun, trivial⟩
def ti137 : TI := ⟨(TypeDesc.func #[102] #[4] false), 1, 8, [.nilFunc], false, [], []⟩
theorem tio137 : TIOk Tryz.prog (137, ti137) := ⟨by kernel_rfl, by kernel_rfl, by kernel_rfl, nofun, trivial⟩
def ti140 : TI := ⟨(TypeDesc.struct #[{ name := "Holder", type := 3, offset := 0, embedded := false, tag := "", pkgPath := "", byteOffset := 0 }, { name := "Readers", type := 24, offset := 1, embedded := false, tag := "", pkgPath := "", byteOffset := 8 }]), 2, 32, [.int .i64 0, .slice none 0 0], true, [], []⟩
theorem tio140 : TIOk Tryz.prog (140, ti140) := ⟨by kernel_rfl, by kernel_rfl, by kernel_rfl, fun _ => ⟨by kernel_rfl, by kernel_rfl⟩, trivial⟩
def ti146 : TI := ⟨(TypeDesc.int IntKind.u64), 1, 8, [.int .u64 0], false, [], []⟩
theorem tio146 : TIOk Tryz.prog (146, ti146) := ⟨by kernel_rfl, by kernel_rfl, by kernel_rfl, nofun, trivial⟩
def ti149 : TI := ⟨(TypeDesc.struct #[{ name := "Task", type := 3, offset := 0, embedded := false, tag := "", pkgPath := "", byteOffset := 0 }, { name := "Value", type := 2, offset := 1, embedded := false, tag := "", pkgPath := "", byteOffset := 8 }, { name := "Err", type := 35, offset := 2, embedded := false, tag := "", pkgPath := "", byteOffset := 16 }]), 3, 24, [.int .i64 0, .int .i64 0, .int .i64 0], true, [], []⟩
theorem tio149 : TIOk Tryz.prog (149, ti149) := ⟨by kernel_rfl, by kernel_rfl, by kernel_rfl, fun _ => ⟨by kernel_rfl, by kernel_rfl⟩, trivial⟩
def ti152 : TI := ⟨(TypeDesc.tuple #[40, 35]), 1, 0, [.tuple { toList := [.slice none 0 0, .int .i64 0] }], false, [], []⟩
theorem tio152 : TIOk Tryz.prog (152, ti152) := ⟨by kernel_rfl, by kernel_rfl, by kernel_rfl, nofun, trivial⟩
def ti169 : TI := ⟨(TypeDesc.tuple #[4, 35]), 1, 0, [.tuple { toList := [.bool false, .int .i64 0] }], false, [], []⟩
theorem tio169 : TIOk Tryz.prog (169, ti169) := ⟨by kernel_rfl, by kernel_rfl, by kernel_rfl, nofun, trivial⟩
def ti171 : TI := ⟨(TypeDesc.slice 5), 1, 24, [.slice none 0 0], false, [], []⟩
theorem tio171 : TIOk Tryz.prog (171, ti171) := ⟨by kernel_rfl, by kernel_rfl, by kernel_rfl, nofun, trivial⟩
def ti173 : TI := ⟨(TypeDesc.tuple #[26, 35]), 1, 0, [.tuple { toList := [.agg { toList := [.slice none 0 0, .slice none 0 0, .slice none 0 0] }, .int .i64 0] }], false, [], []⟩
theorem tio173 : TIOk Tryz.prog (173, ti173) := ⟨by kernel_rfl, by kernel_rfl, by kernel_rfl, nofun, trivial⟩
def ti176 : TI := ⟨(TypeDesc.tuple #[26, 2, 4, 35]), 1, 0, [.tuple { toList := [.agg { toList := [.slice none 0 0, .slice none 0 0, .slice none 0 0] }, .int .i64 0, .bool false, .int .i64 0] }], false, [], []⟩
theorem tio176 : TIOk Tryz.prog (176, ti176) := ⟨by kernel_rfl, by kernel_rfl, by kernel_rfl, nofun, trivial⟩
def tb : Tab := [(0, ti0), (1, ti1), (2, ti2), (3, ti3), (4, ti4), (5, ti5), (6, ti6), (7, ti7), (8, ti8), (9, ti9), (10, ti10), (22, ti22), (23, ti23), (24, ti24), (26, ti26), (27, ti27), (29, ti29), (32, ti32), (34, ti34), (35, ti35), (36, ti36), (38, ti38), (39, ti39), (40, ti40), (41, ti41), (43, ti43), (44, ti44), (46, ti46), (48, ti48), (51, ti51), (56, ti56), (59, ti59), (62, ti62), (64, ti64), (66, ti66), (67, ti67), (69, ti69), (70, ti70), (72, ti72), (73, ti73), (75, ti75), (79, ti79), (81, ti81), (83, ti83), (86, ti86), (88, ti88), (90, ti90), (91, ti91), (94, ti94), (97, ti97), (102, ti102), (104, ti104), (106, ti106), (113, ti113), (115, ti115), (117, ti117), (118, ti118), (120, ti120), (121, ti121), (128, ti128), (130, ti130), (131, ti131), (137, ti137), (140, ti140), (146, ti146), (149, ti149), (152, ti152), (169, ti169), (171, ti171), (173, ti173), (176, ti176)]
theorem tbOk : TabOk Tryz.prog tb := ⟨tio0, tio1, tio2, tio3, tio4, tio5, tio6, tio7, tio8, tio9, tio10, tio22, tio23, tio24, tio26, tio27, tio29, tio32, tio34, tio35, tio36, tio38, tio39, tio40, tio41, tio43, tio44, tio46, tio48, tio51, tio56, tio59, tio62, tio64, tio66, tio67, tio69, tio70, tio72, tio73, tio75, tio79, tio81, tio83, tio86, tio88, tio90, tio91, tio94, tio97, tio102, tio104, tio106, tio113, tio115, tio117, tio118, tio120, tio121, tio128, tio130, tio131, tio137, tio140, tio146, tio149, tio152, tio169, tio171, tio173, tio176, trivial⟩
theorem mixed : Tryz.prog.follows .mixedOrders = true := by kernel_rfl
theorem pl3 : Plain Tryz.prog 3 := fun _ _ => by kernel_rfl
theorem pl5 : Plain Tryz.prog 5 := fun _ _ => by kernel_rfl
theorem pl6 : Plain Tryz.prog 6 := fun _ _ => by kernel_rfl
theorem pl7 : Plain Tryz.prog 7 := fun _ _ => by kernel_rfl
theorem pl8 : Plain Tryz.prog 8 := fun _ _ => by kernel_rfl
theorem pl9 : Plain Tryz.prog 9 := fun _ _ => by kernel_rfl
theorem pl10 : Plain Tryz.prog 10 := fun _ _ => by kernel_rfl
theorem pl11 : Plain Tryz.prog 11 := fun _ _ => by kernel_rfl
theorem pl12 : Plain Tryz.prog 12 := fun _ _ => by kernel_rfl
theorem pl13 : Plain Tryz.prog 13 := fun _ _ => by kernel_rfl
theorem pl16 : Plain Tryz.prog 16 := fun _ _ => by kernel_rfl
theorem pl19 : Plain Tryz.prog 19 := fun _ _ => by kernel_rfl
theorem pl20 : Plain Tryz.prog 20 := fun _ _ => by kernel_rfl
theorem pl21 : Plain Tryz.prog 21 := fun _ _ => by kernel_rfl
theorem pl22 : Plain Tryz.prog 22 := fun _ _ => by kernel_rfl
theorem pl23 : Plain Tryz.prog 23 := fun _ _ => by kernel_rfl
theorem pl24 : Plain Tryz.prog 24 := fun _ _ => by kernel_rfl
theorem pl25 : Plain Tryz.prog 25 := fun _ _ => by kernel_rfl
theorem pl26 : Plain Tryz.prog 26 := fun _ _ => by kernel_rfl
theorem pl27 : Plain Tryz.prog 27 := fun _ _ => by kernel_rfl
theorem pl28 : Plain Tryz.prog 28 := fun _ _ => by kernel_rfl
theorem pl29 : Plain Tryz.prog 29 := fun _ _ => by kernel_rfl
theorem pl30 : Plain Tryz.prog 30 := fun _ _ => by kernel_rfl
theorem pl31 : Plain Tryz.prog 31 := fun _ _ => by kernel_rfl
theorem pl32 : Plain Tryz.prog 32 := fun _ _ => by kernel_rfl
theorem pl33 : Plain Tryz.prog 33 := fun _ _ => by kernel_rfl
theorem pl34 : Plain Tryz.prog 34 := fun _ _ => by kernel_rfl
theorem pl35 : Plain Tryz.prog 35 := fun _ _ => by kernel_rfl
theorem pl36 : Plain Tryz.prog 36 := fun _ _ => by kernel_rfl
theorem pl37 : Plain Tryz.prog 37 := fun _ _ => by kernel_rfl
theorem pl38 : Plain Tryz.prog 38 := fun _ _ => by kernel_rfl
theorem pl39 : Plain Tryz.prog 39 := fun _ _ => by kernel_rfl
theorem pl40 : Plain Tryz.prog 40 := fun _ _ => by kernel_rfl
theorem pl41 : Plain Tryz.prog 41 := fun _ _ => by kernel_rfl
theorem pl42 : Plain Tryz.prog 42 := fun _ _ => by kernel_rfl
theorem pl43 : Plain Tryz.prog 43 := fun _ _ => by kernel_rfl
theorem pl44 : Plain Tryz.prog 44 := fun _ _ => by kernel_rfl
theorem pl45 : Plain Tryz.prog 45 := fun _ _ => by kernel_rfl
theorem pl46 : Plain Tryz.prog 46 := fun _ _ => by kernel_rfl
theorem pl47 : Plain Tryz.prog 47 := fun _ _ => by kernel_rfl
theorem pl48 : Plain Tryz.prog 48 := fun _ _ => by kernel_rfl
theorem pl49 : Plain Tryz.prog 49 := fun _ _ => by kernel_rfl
theorem pl50 : Plain Tryz.prog 50 := fun _ _ => by kernel_rfl
theorem pl51 : Plain Tryz.prog 51 := fun _ _ => by kernel_rfl
theorem pl52 : Plain Tryz.prog 52 := fun _ _ => by kernel_rfl
theorem pl53 : Plain Tryz.prog 53 := fun _ _ => by kernel_rfl
theorem pl54 : Plain Tryz.prog 54 := fun _ _ => by kernel_rfl
theorem pl55 : Plain Tryz.prog 55 := fun _ _ => by kernel_rfl
theorem pl56 : Plain Tryz.prog 56 := fun _ _ => by kernel_rfl
theorem pl57 : Plain Tryz.prog 57 := fun _ _ => by kernel_rfl
theorem pl58 : Plain Tryz.prog 58 := fun _ _ => by kernel_rfl
theorem pl59 : Plain Tryz.prog 59 := fun _ _ => by kernel_rfl
theorem pl60 : Plain Tryz.prog 60 := fun _ _ => by kernel_rfl
theorem pl61 : Plain Tryz.prog 61 := fun _ _ => by kernel_rfl
theorem pl62 : Plain Tryz.prog 62 := fun _ _ => by kernel_rfl
theorem pl63 : Plain Tryz.prog 63 := fun _ _ => by kernel_rfl
theorem pl64 : Plain Tryz.prog 64 := fun _ _ => by kernel_rfl
theorem pl65 : Plain Tryz.prog 65 := fun _ _ => by kernel_rfl
theorem pl66 : Plain Tryz.prog 66 := fun _ _ => by kernel_rfl
theorem pl69 : Plain Tryz.prog 69 := fun _ _ => by kernel_rfl
theorem pl70 : Plain Tryz.prog 70 := fun _ _ => by kernel_rfl
theorem pl71 : Plain Tryz.prog 71 := fun _ _ => by kernel_rfl
theorem pl72 : Plain Tryz.prog 72 := fun _ _ => by kernel_rfl
theorem pl73 : Plain Tryz.prog 73 := fun _ _ => by kernel_rfl
theorem pl74 : Plain Tryz.prog 74 := fun _ _ => by kernel_rfl
theorem pl75 : Plain Tryz.prog 75 := fun _ _ => by kernel_rfl
theorem pl87 : Plain Tryz.prog 87 := fun _ _ => by kernel_rfl
theorem pl88 : Plain Tryz.prog 88 := fun _ _ => by kernel_rfl
theorem pl89 : Plain Tryz.prog 89 := fun _ _ => by kernel_rfl
theorem pl90 : Plain Tryz.prog 90 := fun _ _ => by kernel_rfl
theorem pl91 : Plain Tryz.prog 91 := fun _ _ => by kernel_rfl
theorem pl92 : Plain Tryz.prog 92 := fun _ _ => by kernel_rfl
theorem pl93 : Plain Tryz.prog 93 := fun _ _ => by kernel_rfl
theorem pl94 : Plain Tryz.prog 94 := fun _ _ => by kernel_rfl
theorem pl95 : Plain Tryz.prog 95 := fun _ _ => by kernel_rfl
theorem pl96 : Plain Tryz.prog 96 := fun _ _ => by kernel_rfl
theorem pl103 : Plain Tryz.prog 103 := fun _ _ => by kernel_rfl
theorem pl104 : Plain Tryz.prog 104 := fun _ _ => by kernel_rfl
theorem pl105 : Plain Tryz.prog 105 := fun _ _ => by kernel_rfl
theorem pl122 : Plain Tryz.prog 122 := fun _ _ => by kernel_rfl
theorem pl123 : Plain Tryz.prog 123 := fun _ _ => by kernel_rfl
theorem pl124 : Plain Tryz.prog 124 := fun _ _ => by kernel_rfl
theorem pl125 : Plain Tryz.prog 125 := fun _ _ => by kernel_rfl
theorem pl126 : Plain Tryz.prog 126 := fun _ _ => by kernel_rfl
theorem pl127 : Plain Tryz.prog 127 := fun _ _ => by kernel_rfl
theorem pl128 : Plain Tryz.prog 128 := fun _ _ => by kernel_rfl
theorem pl129 : Plain Tryz.prog 129 := fun _ _ => by kernel_rfl
theorem pl130 : Plain Tryz.prog 130 := fun _ _ => by kernel_rfl
@[simp] theorem keeps_eq : keepsOf tb = [34, 37, 38, 39, 50, 58] := rfl
attribute [simp] ti0 ti1 ti2 ti3 ti4 ti5 ti6 ti7 ti8 ti9 ti10 ti22 ti23 ti24 ti26 ti27 ti29 ti32 ti34 ti35 ti36 ti38 ti39 ti40 ti41 ti43 ti44 ti46 ti48 ti51 ti56 ti59 ti62 ti64 ti66 ti67 ti69 ti70 ti72 ti73 ti75 ti79 ti81 ti83 ti86 ti88 ti90 ti91 ti94 ti97 ti102 ti104 ti106 ti113 ti115 ti117 ti118 ti120 ti121 ti128 ti130 ti131 ti137 ti140 ti146 ti149 ti152 ti169 ti171 ti173 ti176
@[simp] theorem tbl0 : look 0 tb = some ti0 := rfl
@[simp] theorem tbl1 : look 1 tb = some ti1 := rfl
@[simp] theorem tbl2 : look 2 tb = some ti2 := rfl
@[simp] theorem tbl3 : look 3 tb = some ti3 := rfl
@[simp] theorem tbl4 : look 4 tb = some ti4 := rfl
@[simp] theorem tbl5 : look 5 tb = some ti5 := rfl
@[simp] theorem tbl6 : look 6 tb = some ti6 := rfl
@[simp] theorem tbl7 : look 7 tb = some ti7 := rfl
@[simp] theorem tbl8 : look 8 tb = some ti8 := rfl
@[simp] theorem tbl9 : look 9 tb = some ti9 := rfl
@[simp] theorem tbl10 : look 10 tb = some ti10 := rfl
@[simp] theorem tbl22 : look 22 tb = some ti22 := rfl
@[simp] theorem tbl23 : look 23 tb = some ti23 := rfl
@[simp] theorem tbl24 : look 24 tb = some ti24 := rfl
@[simp] theorem tbl26 : look 26 tb = some ti26 := rfl
@[simp] theorem tbl27 : look 27 tb = some ti27 := rfl
@[simp] theorem tbl29 : look 29 tb = some ti29 := rfl
@[simp] theorem tbl32 : look 32 tb = some ti32 := rfl
@[simp] theorem tbl34 : look 34 tb = some ti34 := rfl
@[simp] theorem tbl35 : look 35 tb = some ti35 := rfl
@[simp] theorem tbl36 : look 36 tb = some ti36 := rfl
@[simp] theorem tbl38 : look 38 tb = some ti38 := rfl
@[simp] theorem tbl39 : look 39 tb = some ti39 := rfl
@[simp] theorem tbl40 : look 40 tb = some ti40 := rfl
@[simp] theorem tbl41 : look 41 tb = some ti41 := rfl
@[simp] theorem tbl43 : look 43 tb = some ti43 := rfl
@[simp] theorem tbl44 : look 44 tb = some ti44 := rfl
@[simp] theorem tbl46 : look 46 tb = some ti46 := rfl
@[simp] theorem tbl48 : look 48 tb = some ti48 := rfl
@[simp] theorem tbl51 : look 51 tb = some ti51 := rfl
@[simp] theorem tbl56 : look 56 tb = some ti56 := rfl
@[simp] theorem tbl59 : look 59 tb = some ti59 := rfl
@[simp] theorem tbl62 : look 62 tb = some ti62 := rfl
@[simp] theorem tbl64 : look 64 tb = some ti64 := rfl
@[simp] theorem tbl66 : look 66 tb = some ti66 := rfl
@[simp] theorem tbl67 : look 67 tb = some ti67 := rfl
@[simp] theorem tbl69 : look 69 tb = some ti69 := rfl
@[simp] theorem tbl70 : look 70 tb = some ti70 := rfl
@[simp] theorem tbl72 : look 72 tb = some ti72 := rfl
@[simp] theorem tbl73 : look 73 tb = some ti73 := rfl
@[simp] theorem tbl75 : look 75 tb = some ti75 := rfl
@[simp] theorem tbl79 : look 79 tb = some ti79 := rfl
@[simp] theorem tbl81 : look 81 tb = some ti81 := rfl
@[simp] theorem tbl83 : look 83 tb = some ti83 := rfl
@[simp] theorem tbl86 : look 86 tb = some ti86 := rfl
@[simp] theorem tbl88 : look 88 tb = some ti88 := rfl
@[simp] theorem tbl90 : look 90 tb = some ti90 := rfl
@[simp] theorem tbl91 : look 91 tb = some ti91 := rfl
@[simp] theorem tbl94 : look 94 tb = some ti94 := rfl
@[simp] theorem tbl97 : look 97 tb = some ti97 := rfl
@[simp] theorem tbl102 : look 102 tb = some ti102 := rfl
@[simp] theorem tbl104 : look 104 tb = some ti104 := rfl
@[simp] theorem tbl106 : look 106 tb = some ti106 := rfl
@[simp] theorem tbl113 : look 113 tb = some ti113 := rfl
@[simp] theorem tbl115 : look 115 tb = some ti115 := rfl
@[simp] theorem tbl117 : look 117 tb = some ti117 := rfl
@[simp] theorem tbl118 : look 118 tb = some ti118 := rfl
@[simp] theorem tbl120 : look 120 tb = some ti120 := rfl
@[simp] theorem tbl121 : look 121 tb = some ti121 := rfl
@[simp] theorem tbl128 : look 128 tb = some ti128 := rfl
@[simp] theorem tbl130 : look 130 tb = some ti130 := rfl
@[simp] theorem tbl131 : look 131 tb = some ti131 := rfl
@[simp] theorem tbl137 : look 137 tb = some ti137 := rfl
@[simp] theorem tbl140 : look 140 tb = some ti140 := rfl
@[simp] theorem tbl146 : look 146 tb = some ti146 := rfl
@[simp] theorem tbl149 : look 149 tb = some ti149 := rfl
@[simp] theorem tbl152 : look 152 tb = some ti152 := rfl
@[simp] theorem tbl169 : look 169 tb = some ti169 := rfl
@[simp] theorem tbl171 : look 171 tb = some ti171 := rfl
@[simp] theorem tbl173 : look 173 tb = some ti173 := rfl
@[simp] theorem tbl176 : look 176 tb = some ti176 := rfl
end Go.Proofs.YtplooifpgmlofaaGreat
