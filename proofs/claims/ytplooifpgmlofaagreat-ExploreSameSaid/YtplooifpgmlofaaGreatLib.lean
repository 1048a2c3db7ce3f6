/- What of the library the texts stand on. No condition. -/
import Derived.WalkKit
import Derived.WalkLawsBesides
import Derived.WalkSpells
import Derived.Lib.Hide
import Derived.Maps.AppendAt
import Derived.Deep.QuietTactic
import Derived.Deep.RegionHeld3
import Derived.BigQuiet
namespace Go.Proofs.YtplooifpgmlofaaGreat
open Go.RowKit
end Go.Proofs.YtplooifpgmlofaaGreat
