/- The tables of types, otherwise. No condition. -/
import Derived.Test.YtplooifpgmlofaaGreatTab
namespace Go.Proofs.YtplooifpgmlofaaGreat
open Go.RowKit
set_option maxRecDepth 20000
def tiR : TI := ⟨(TypeDesc.tuple #[]), 1, 0, [.tuple #[]], false, [1000024, 1000067], []⟩
theorem tioR : TIOk Tryz.prog (0, tiR) := ⟨by kernel_rfl, by kernel_rfl, by kernel_rfl, nofun, trivial⟩
def tbR : Tab := (0, tiR) :: tb.tail
theorem tbROk : TabOk Tryz.prog tbR := ⟨tioR, tbOk.2⟩
@[simp] theorem keepsR_eq : keepsOf tbR = [1000024, 1000067] := rfl
attribute [simp] tiR
@[simp] theorem tblR0 : look 0 tbR = some tiR := rfl
@[simp] theorem tblR1 : look 1 tbR = some ti1 := rfl
@[simp] theorem tblR2 : look 2 tbR = some ti2 := rfl
@[simp] theorem tblR3 : look 3 tbR = some ti3 := rfl
@[simp] theorem tblR4 : look 4 tbR = some ti4 := rfl
@[simp] theorem tblR5 : look 5 tbR = some ti5 := rfl
@[simp] theorem tblR6 : look 6 tbR = some ti6 := rfl
@[simp] theorem tblR7 : look 7 tbR = some ti7 := rfl
@[simp] theorem tblR8 : look 8 tbR = some ti8 := rfl
@[simp] theorem tblR9 : look 9 tbR = some ti9 := rfl
@[simp] theorem tblR10 : look 10 tbR = some ti10 := rfl
@[simp] theorem tblR22 : look 22 tbR = some ti22 := rfl
@[simp] theorem tblR23 : look 23 tbR = some ti23 := rfl
@[simp] theorem tblR24 : look 24 tbR = some ti24 := rfl
@[simp] theorem tblR26 : look 26 tbR = some ti26 := rfl
@[simp] theorem tblR27 : look 27 tbR = some ti27 := rfl
@[simp] theorem tblR29 : look 29 tbR = some ti29 := rfl
@[simp] theorem tblR32 : look 32 tbR = some ti32 := rfl
@[simp] theorem tblR34 : look 34 tbR = some ti34 := rfl
@[simp] theorem tblR35 : look 35 tbR = some ti35 := rfl
@[simp] theorem tblR36 : look 36 tbR = some ti36 := rfl
@[simp] theorem tblR38 : look 38 tbR = some ti38 := rfl
@[simp] theorem tblR39 : look 39 tbR = some ti39 := rfl
@[simp] theorem tblR40 : look 40 tbR = some ti40 := rfl
@[simp] theorem tblR41 : look 41 tbR = some ti41 := rfl
@[simp] theorem tblR43 : look 43 tbR = some ti43 := rfl
@[simp] theorem tblR44 : look 44 tbR = some ti44 := rfl
@[simp] theorem tblR46 : look 46 tbR = some ti46 := rfl
@[simp] theorem tblR48 : look 48 tbR = some ti48 := rfl
@[simp] theorem tblR51 : look 51 tbR = some ti51 := rfl
@[simp] theorem tblR56 : look 56 tbR = some ti56 := rfl
@[simp] theorem tblR59 : look 59 tbR = some ti59 := rfl
@[simp] theorem tblR62 : look 62 tbR = some ti62 := rfl
@[simp] theorem tblR64 : look 64 tbR = some ti64 := rfl
@[simp] theorem tblR66 : look 66 tbR = some ti66 := rfl
@[simp] theorem tblR67 : look 67 tbR = some ti67 := rfl
@[simp] theorem tblR69 : look 69 tbR = some ti69 := rfl
@[simp] theorem tblR70 : look 70 tbR = some ti70 := rfl
@[simp] theorem tblR72 : look 72 tbR = some ti72 := rfl
@[simp] theorem tblR73 : look 73 tbR = some ti73 := rfl
@[simp] theorem tblR75 : look 75 tbR = some ti75 := rfl
@[simp] theorem tblR79 : look 79 tbR = some ti79 := rfl
@[simp] theorem tblR81 : look 81 tbR = some ti81 := rfl
@[simp] theorem tblR83 : look 83 tbR = some ti83 := rfl
@[simp] theorem tblR86 : look 86 tbR = some ti86 := rfl
@[simp] theorem tblR88 : look 88 tbR = some ti88 := rfl
@[simp] theorem tblR90 : look 90 tbR = some ti90 := rfl
@[simp] theorem tblR91 : look 91 tbR = some ti91 := rfl
@[simp] theorem tblR94 : look 94 tbR = some ti94 := rfl
@[simp] theorem tblR97 : look 97 tbR = some ti97 := rfl
@[simp] theorem tblR102 : look 102 tbR = some ti102 := rfl
@[simp] theorem tblR104 : look 104 tbR = some ti104 := rfl
@[simp] theorem tblR106 : look 106 tbR = some ti106 := rfl
@[simp] theorem tblR113 : look 113 tbR = some ti113 := rfl
@[simp] theorem tblR115 : look 115 tbR = some ti115 := rfl
@[simp] theorem tblR117 : look 117 tbR = some ti117 := rfl
@[simp] theorem tblR118 : look 118 tbR = some ti118 := rfl
@[simp] theorem tblR120 : look 120 tbR = some ti120 := rfl
@[simp] theorem tblR121 : look 121 tbR = some ti121 := rfl
@[simp] theorem tblR128 : look 128 tbR = some ti128 := rfl
@[simp] theorem tblR130 : look 130 tbR = some ti130 := rfl
@[simp] theorem tblR131 : look 131 tbR = some ti131 := rfl
@[simp] theorem tblR137 : look 137 tbR = some ti137 := rfl
@[simp] theorem tblR140 : look 140 tbR = some ti140 := rfl
@[simp] theorem tblR146 : look 146 tbR = some ti146 := rfl
@[simp] theorem tblR149 : look 149 tbR = some ti149 := rfl
@[simp] theorem tblR152 : look 152 tbR = some ti152 := rfl
@[simp] theorem tblR169 : look 169 tbR = some ti169 := rfl
@[simp] theorem tblR171 : look 171 tbR = some ti171 := rfl
@[simp] theorem tblR173 : look 173 tbR = some ti173 := rfl
@[simp] theorem tblR176 : look 176 tbR = some ti176 := rfl
end Go.Proofs.YtplooifpgmlofaaGreat
namespace Go.Proofs.YtplooifpgmlofaaGreat
open Go.RowKit
set_option maxRecDepth 20000
def tiS : TI := ⟨(TypeDesc.tuple #[]), 1, 0, [.tuple #[]], false, [2067032, 2068024, 2090024], []⟩
theorem tioS : TIOk Tryz.prog (0, tiS) := ⟨by kernel_rfl, by kernel_rfl, by kernel_rfl, nofun, trivial⟩
def tbS : Tab := (0, tiS) :: tb.tail
theorem tbSOk : TabOk Tryz.prog tbS := ⟨tioS, tbOk.2⟩
@[simp] theorem keepsS_eq : keepsOf tbS = [2067032, 2068024, 2090024] := rfl
attribute [simp] tiS
@[simp] theorem tblS0 : look 0 tbS = some tiS := rfl
@[simp] theorem tblS1 : look 1 tbS = some ti1 := rfl
@[simp] theorem tblS2 : look 2 tbS = some ti2 := rfl
@[simp] theorem tblS3 : look 3 tbS = some ti3 := rfl
@[simp] theorem tblS4 : look 4 tbS = some ti4 := rfl
@[simp] theorem tblS5 : look 5 tbS = some ti5 := rfl
@[simp] theorem tblS6 : look 6 tbS = some ti6 := rfl
@[simp] theorem tblS7 : look 7 tbS = some ti7 := rfl
@[simp] theorem tblS8 : look 8 tbS = some ti8 := rfl
@[simp] theorem tblS9 : look 9 tbS = some ti9 := rfl
@[simp] theorem tblS10 : look 10 tbS = some ti10 := rfl
@[simp] theorem tblS22 : look 22 tbS = some ti22 := rfl
@[simp] theorem tblS23 : look 23 tbS = some ti23 := rfl
@[simp] theorem tblS24 : look 24 tbS = some ti24 := rfl
@[simp] theorem tblS26 : look 26 tbS = some ti26 := rfl
@[simp] theorem tblS27 : look 27 tbS = some ti27 := rfl
@[simp] theorem tblS29 : look 29 tbS = some ti29 := rfl
@[simp] theorem tblS32 : look 32 tbS = some ti32 := rfl
@[simp] theorem tblS34 : look 34 tbS = some ti34 := rfl
@[simp] theorem tblS35 : look 35 tbS = some ti35 := rfl
@[simp] theorem tblS36 : look 36 tbS = some ti36 := rfl
@[simp] theorem tblS38 : look 38 tbS = some ti38 := rfl
@[simp] theorem tblS39 : look 39 tbS = some ti39 := rfl
@[simp] theorem tblS40 : look 40 tbS = some ti40 := rfl
@[simp] theorem tblS41 : look 41 tbS = some ti41 := rfl
@[simp] theorem tblS43 : look 43 tbS = some ti43 := rfl
@[simp] theorem tblS44 : look 44 tbS = some ti44 := rfl
@[simp] theorem tblS46 : look 46 tbS = some ti46 := rfl
@[simp] theorem tblS48 : look 48 tbS = some ti48 := rfl
@[simp] theorem tblS51 : look 51 tbS = some ti51 := rfl
@[simp] theorem tblS56 : look 56 tbS = some ti56 := rfl
@[simp] theorem tblS59 : look 59 tbS = some ti59 := rfl
@[simp] theorem tblS62 : look 62 tbS = some ti62 := rfl
@[simp] theorem tblS64 : look 64 tbS = some ti64 := rfl
@[simp] theorem tblS66 : look 66 tbS = some ti66 := rfl
@[simp] theorem tblS67 : look 67 tbS = some ti67 := rfl
@[simp] theorem tblS69 : look 69 tbS = some ti69 := rfl
@[simp] theorem tblS70 : look 70 tbS = some ti70 := rfl
@[simp] theorem tblS72 : look 72 tbS = some ti72 := rfl
@[simp] theorem tblS73 : look 73 tbS = some ti73 := rfl
@[simp] theorem tblS75 : look 75 tbS = some ti75 := rfl
@[simp] theorem tblS79 : look 79 tbS = some ti79 := rfl
@[simp] theorem tblS81 : look 81 tbS = some ti81 := rfl
@[simp] theorem tblS83 : look 83 tbS = some ti83 := rfl
@[simp] theorem tblS86 : look 86 tbS = some ti86 := rfl
@[simp] theorem tblS88 : look 88 tbS = some ti88 := rfl
@[simp] theorem tblS90 : look 90 tbS = some ti90 := rfl
@[simp] theorem tblS91 : look 91 tbS = some ti91 := rfl
@[simp] theorem tblS94 : look 94 tbS = some ti94 := rfl
@[simp] theorem tblS97 : look 97 tbS = some ti97 := rfl
@[simp] theorem tblS102 : look 102 tbS = some ti102 := rfl
@[simp] theorem tblS104 : look 104 tbS = some ti104 := rfl
@[simp] theorem tblS106 : look 106 tbS = some ti106 := rfl
@[simp] theorem tblS113 : look 113 tbS = some ti113 := rfl
@[simp] theorem tblS115 : look 115 tbS = some ti115 := rfl
@[simp] theorem tblS117 : look 117 tbS = some ti117 := rfl
@[simp] theorem tblS118 : look 118 tbS = some ti118 := rfl
@[simp] theorem tblS120 : look 120 tbS = some ti120 := rfl
@[simp] theorem tblS121 : look 121 tbS = some ti121 := rfl
@[simp] theorem tblS128 : look 128 tbS = some ti128 := rfl
@[simp] theorem tblS130 : look 130 tbS = some ti130 := rfl
@[simp] theorem tblS131 : look 131 tbS = some ti131 := rfl
@[simp] theorem tblS137 : look 137 tbS = some ti137 := rfl
@[simp] theorem tblS140 : look 140 tbS = some ti140 := rfl
@[simp] theorem tblS146 : look 146 tbS = some ti146 := rfl
@[simp] theorem tblS149 : look 149 tbS = some ti149 := rfl
@[simp] theorem tblS152 : look 152 tbS = some ti152 := rfl
@[simp] theorem tblS169 : look 169 tbS = some ti169 := rfl
@[simp] theorem tblS171 : look 171 tbS = some ti171 := rfl
@[simp] theorem tblS173 : look 173 tbS = some ti173 := rfl
@[simp] theorem tblS176 : look 176 tbS = some ti176 := rfl
def tiN : TI := ⟨(TypeDesc.tuple #[]), 1, 0, [.tuple #[]], false, [2046091, 2133090], []⟩
theorem tioN : TIOk Tryz.prog (0, tiN) := ⟨by kernel_rfl, by kernel_rfl, by kernel_rfl, nofun, trivial⟩
def tbN : Tab := (0, tiN) :: tb.tail
theorem tbNOk : TabOk Tryz.prog tbN := ⟨tioN, tbOk.2⟩
@[simp] theorem keepsN_eq : keepsOf tbN = [2046091, 2133090] := rfl
attribute [simp] tiN
@[simp] theorem tblN0 : look 0 tbN = some tiN := rfl
@[simp] theorem tblN1 : look 1 tbN = some ti1 := rfl
@[simp] theorem tblN2 : look 2 tbN = some ti2 := rfl
@[simp] theorem tblN3 : look 3 tbN = some ti3 := rfl
@[simp] theorem tblN4 : look 4 tbN = some ti4 := rfl
@[simp] theorem tblN5 : look 5 tbN = some ti5 := rfl
@[simp] theorem tblN6 : look 6 tbN = some ti6 := rfl
@[simp] theorem tblN7 : look 7 tbN = some ti7 := rfl
@[simp] theorem tblN8 : look 8 tbN = some ti8 := rfl
@[simp] theorem tblN9 : look 9 tbN = some ti9 := rfl
@[simp] theorem tblN10 : look 10 tbN = some ti10 := rfl
@[simp] theorem tblN22 : look 22 tbN = some ti22 := rfl
@[simp] theorem tblN23 : look 23 tbN = some ti23 := rfl
@[simp] theorem tblN24 : look 24 tbN = some ti24 := rfl
@[simp] theorem tblN26 : look 26 tbN = some ti26 := rfl
@[simp] theorem tblN27 : look 27 tbN = some ti27 := rfl
@[simp] theorem tblN29 : look 29 tbN = some ti29 := rfl
@[simp] theorem tblN32 : look 32 tbN = some ti32 := rfl
@[simp] theorem tblN34 : look 34 tbN = some ti34 := rfl
@[simp] theorem tblN35 : look 35 tbN = some ti35 := rfl
@[simp] theorem tblN36 : look 36 tbN = some ti36 := rfl
@[simp] theorem tblN38 : look 38 tbN = some ti38 := rfl
@[simp] theorem tblN39 : look 39 tbN = some ti39 := rfl
@[simp] theorem tblN40 : look 40 tbN = some ti40 := rfl
@[simp] theorem tblN41 : look 41 tbN = some ti41 := rfl
@[simp] theorem tblN43 : look 43 tbN = some ti43 := rfl
@[simp] theorem tblN44 : look 44 tbN = some ti44 := rfl
@[simp] theorem tblN46 : look 46 tbN = some ti46 := rfl
@[simp] theorem tblN48 : look 48 tbN = some ti48 := rfl
@[simp] theorem tblN51 : look 51 tbN = some ti51 := rfl
@[simp] theorem tblN56 : look 56 tbN = some ti56 := rfl
@[simp] theorem tblN59 : look 59 tbN = some ti59 := rfl
@[simp] theorem tblN62 : look 62 tbN = some ti62 := rfl
@[simp] theorem tblN64 : look 64 tbN = some ti64 := rfl
@[simp] theorem tblN66 : look 66 tbN = some ti66 := rfl
@[simp] theorem tblN67 : look 67 tbN = some ti67 := rfl
@[simp] theorem tblN69 : look 69 tbN = some ti69 := rfl
@[simp] theorem tblN70 : look 70 tbN = some ti70 := rfl
@[simp] theorem tblN72 : look 72 tbN = some ti72 := rfl
@[simp] theorem tblN73 : look 73 tbN = some ti73 := rfl
@[simp] theorem tblN75 : look 75 tbN = some ti75 := rfl
@[simp] theorem tblN79 : look 79 tbN = some ti79 := rfl
@[simp] theorem tblN81 : look 81 tbN = some ti81 := rfl
@[simp] theorem tblN83 : look 83 tbN = some ti83 := rfl
@[simp] theorem tblN86 : look 86 tbN = some ti86 := rfl
@[simp] theorem tblN88 : look 88 tbN = some ti88 := rfl
@[simp] theorem tblN90 : look 90 tbN = some ti90 := rfl
@[simp] theorem tblN91 : look 91 tbN = some ti91 := rfl
@[simp] theorem tblN94 : look 94 tbN = some ti94 := rfl
@[simp] theorem tblN97 : look 97 tbN = some ti97 := rfl
@[simp] theorem tblN102 : look 102 tbN = some ti102 := rfl
@[simp] theorem tblN104 : look 104 tbN = some ti104 := rfl
@[simp] theorem tblN106 : look 106 tbN = some ti106 := rfl
@[simp] theorem tblN113 : look 113 tbN = some ti113 := rfl
@[simp] theorem tblN115 : look 115 tbN = some ti115 := rfl
@[simp] theorem tblN117 : look 117 tbN = some ti117 := rfl
@[simp] theorem tblN118 : look 118 tbN = some ti118 := rfl
@[simp] theorem tblN120 : look 120 tbN = some ti120 := rfl
@[simp] theorem tblN121 : look 121 tbN = some ti121 := rfl
@[simp] theorem tblN128 : look 128 tbN = some ti128 := rfl
@[simp] theorem tblN130 : look 130 tbN = some ti130 := rfl
@[simp] theorem tblN131 : look 131 tbN = some ti131 := rfl
@[simp] theorem tblN137 : look 137 tbN = some ti137 := rfl
@[simp] theorem tblN140 : look 140 tbN = some ti140 := rfl
@[simp] theorem tblN146 : look 146 tbN = some ti146 := rfl
@[simp] theorem tblN149 : look 149 tbN = some ti149 := rfl
@[simp] theorem tblN152 : look 152 tbN = some ti152 := rfl
@[simp] theorem tblN169 : look 169 tbN = some ti169 := rfl
@[simp] theorem tblN171 : look 171 tbN = some ti171 := rfl
@[simp] theorem tblN173 : look 173 tbN = some ti173 := rfl
@[simp] theorem tblN176 : look 176 tbN = some ti176 := rfl
end Go.Proofs.YtplooifpgmlofaaGreat
namespace Go.Proofs.YtplooifpgmlofaaGreat
open Go.RowKit
set_option maxRecDepth 20000
def ti46C : TI := ⟨(TypeDesc.pointer 48), 1, 8, [.pointer none], false, [], [("Done", 74), ("Enabled", 52), ("Footprint", 29), ("Outcome", 122), ("Start", 123), ("Step", 124)]⟩
theorem tio46C : TIOk Tryz.prog (46, ti46C) := ⟨by kernel_rfl, by kernel_rfl, by kernel_rfl, nofun, ⟨fun _ _ => by kernel_rfl, fun _ _ => by kernel_rfl, fun _ _ => by kernel_rfl, fun _ _ => by kernel_rfl, fun _ _ => by kernel_rfl, fun _ _ => by kernel_rfl, trivial⟩⟩
def tbC : Tab := [(0, ti0), (1, ti1), (2, ti2), (3, ti3), (4, ti4), (5, ti5), (6, ti6), (7, ti7), (8, ti8), (9, ti9), (10, ti10), (22, ti22), (23, ti23), (24, ti24), (26, ti26), (27, ti27), (29, ti29), (32, ti32), (34, ti34), (35, ti35), (36, ti36), (38, ti38), (39, ti39), (40, ti40), (41, ti41), (43, ti43), (44, ti44), (46, ti46C), (48, ti48), (51, ti51), (56, ti56), (59, ti59), (62, ti62), (64, ti64), (66, ti66), (67, ti67), (69, ti69), (70, ti70), (72, ti72), (73, ti73), (75, ti75), (79, ti79), (81, ti81), (83, ti83), (86, ti86), (88, ti88), (90, ti90), (91, ti91), (94, ti94), (97, ti97), (102, ti102), (104, ti104), (106, ti106), (113, ti113), (115, ti115), (117, ti117), (118, ti118), (120, ti120), (121, ti121), (128, ti128), (130, ti130), (131, ti131), (137, ti137), (140, ti140), (146, ti146), (149, ti149), (152, ti152), (169, ti169), (171, ti171), (173, ti173), (176, ti176)]
theorem tbCOk : TabOk Tryz.prog tbC := ⟨tio0, tio1, tio2, tio3, tio4, tio5, tio6, tio7, tio8, tio9, tio10, tio22, tio23, tio24, tio26, tio27, tio29, tio32, tio34, tio35, tio36, tio38, tio39, tio40, tio41, tio43, tio44, tio46C, tio48, tio51, tio56, tio59, tio62, tio64, tio66, tio67, tio69, tio70, tio72, tio73, tio75, tio79, tio81, tio83, tio86, tio88, tio90, tio91, tio94, tio97, tio102, tio104, tio106, tio113, tio115, tio117, tio118, tio120, tio121, tio128, tio130, tio131, tio137, tio140, tio146, tio149, tio152, tio169, tio171, tio173, tio176, trivial⟩
attribute [simp] ti46C
@[simp] theorem keepsC_eq : keepsOf tbC = [34, 37, 38, 39, 50, 58] := rfl
@[simp] theorem tblC0 : look 0 tbC = some ti0 := rfl
@[simp] theorem tblC1 : look 1 tbC = some ti1 := rfl
@[simp] theorem tblC2 : look 2 tbC = some ti2 := rfl
@[simp] theorem tblC3 : look 3 tbC = some ti3 := rfl
@[simp] theorem tblC4 : look 4 tbC = some ti4 := rfl
@[simp] theorem tblC5 : look 5 tbC = some ti5 := rfl
@[simp] theorem tblC6 : look 6 tbC = some ti6 := rfl
@[simp] theorem tblC7 : look 7 tbC = some ti7 := rfl
@[simp] theorem tblC8 : look 8 tbC = some ti8 := rfl
@[simp] theorem tblC9 : look 9 tbC = some ti9 := rfl
@[simp] theorem tblC10 : look 10 tbC = some ti10 := rfl
@[simp] theorem tblC22 : look 22 tbC = some ti22 := rfl
@[simp] theorem tblC23 : look 23 tbC = some ti23 := rfl
@[simp] theorem tblC24 : look 24 tbC = some ti24 := rfl
@[simp] theorem tblC26 : look 26 tbC = some ti26 := rfl
@[simp] theorem tblC27 : look 27 tbC = some ti27 := rfl
@[simp] theorem tblC29 : look 29 tbC = some ti29 := rfl
@[simp] theorem tblC32 : look 32 tbC = some ti32 := rfl
@[simp] theorem tblC34 : look 34 tbC = some ti34 := rfl
@[simp] theorem tblC35 : look 35 tbC = some ti35 := rfl
@[simp] theorem tblC36 : look 36 tbC = some ti36 := rfl
@[simp] theorem tblC38 : look 38 tbC = some ti38 := rfl
@[simp] theorem tblC39 : look 39 tbC = some ti39 := rfl
@[simp] theorem tblC40 : look 40 tbC = some ti40 := rfl
@[simp] theorem tblC41 : look 41 tbC = some ti41 := rfl
@[simp] theorem tblC43 : look 43 tbC = some ti43 := rfl
@[simp] theorem tblC44 : look 44 tbC = some ti44 := rfl
@[simp] theorem tblC46 : look 46 tbC = some ti46C := rfl
@[simp] theorem tblC48 : look 48 tbC = some ti48 := rfl
@[simp] theorem tblC51 : look 51 tbC = some ti51 := rfl
@[simp] theorem tblC56 : look 56 tbC = some ti56 := rfl
@[simp] theorem tblC59 : look 59 tbC = some ti59 := rfl
@[simp] theorem tblC62 : look 62 tbC = some ti62 := rfl
@[simp] theorem tblC64 : look 64 tbC = some ti64 := rfl
@[simp] theorem tblC66 : look 66 tbC = some ti66 := rfl
@[simp] theorem tblC67 : look 67 tbC = some ti67 := rfl
@[simp] theorem tblC69 : look 69 tbC = some ti69 := rfl
@[simp] theorem tblC70 : look 70 tbC = some ti70 := rfl
@[simp] theorem tblC72 : look 72 tbC = some ti72 := rfl
@[simp] theorem tblC73 : look 73 tbC = some ti73 := rfl
@[simp] theorem tblC75 : look 75 tbC = some ti75 := rfl
@[simp] theorem tblC79 : look 79 tbC = some ti79 := rfl
@[simp] theorem tblC81 : look 81 tbC = some ti81 := rfl
@[simp] theorem tblC83 : look 83 tbC = some ti83 := rfl
@[simp] theorem tblC86 : look 86 tbC = some ti86 := rfl
@[simp] theorem tblC88 : look 88 tbC = some ti88 := rfl
@[simp] theorem tblC90 : look 90 tbC = some ti90 := rfl
@[simp] theorem tblC91 : look 91 tbC = some ti91 := rfl
@[simp] theorem tblC94 : look 94 tbC = some ti94 := rfl
@[simp] theorem tblC97 : look 97 tbC = some ti97 := rfl
@[simp] theorem tblC102 : look 102 tbC = some ti102 := rfl
@[simp] theorem tblC104 : look 104 tbC = some ti104 := rfl
@[simp] theorem tblC106 : look 106 tbC = some ti106 := rfl
@[simp] theorem tblC113 : look 113 tbC = some ti113 := rfl
@[simp] theorem tblC115 : look 115 tbC = some ti115 := rfl
@[simp] theorem tblC117 : look 117 tbC = some ti117 := rfl
@[simp] theorem tblC118 : look 118 tbC = some ti118 := rfl
@[simp] theorem tblC120 : look 120 tbC = some ti120 := rfl
@[simp] theorem tblC121 : look 121 tbC = some ti121 := rfl
@[simp] theorem tblC128 : look 128 tbC = some ti128 := rfl
@[simp] theorem tblC130 : look 130 tbC = some ti130 := rfl
@[simp] theorem tblC131 : look 131 tbC = some ti131 := rfl
@[simp] theorem tblC137 : look 137 tbC = some ti137 := rfl
@[simp] theorem tblC140 : look 140 tbC = some ti140 := rfl
@[simp] theorem tblC146 : look 146 tbC = some ti146 := rfl
@[simp] theorem tblC149 : look 149 tbC = some ti149 := rfl
@[simp] theorem tblC152 : look 152 tbC = some ti152 := rfl
@[simp] theorem tblC169 : look 169 tbC = some ti169 := rfl
@[simp] theorem tblC171 : look 171 tbC = some ti171 := rfl
@[simp] theorem tblC173 : look 173 tbC = some ti173 := rfl
@[simp] theorem tblC176 : look 176 tbC = some ti176 := rfl
end Go.Proofs.YtplooifpgmlofaaGreat
