/- What the log's walks want of the listed variables. -/
import Derived.Test.YtaijpiebjhhkjaaGreatDoorTold
import Derived.Lib.LaidTab
import Derived.Lib.Space
namespace Go.Proofs.YtaijpiebjhhkjaaGreatDoor
open Go.RowKit
/-- what the walk wants of the listed variables -/
structure LaidLog (w : World) : Prop where
  laid : Laid w
  tab : Lib.TabIs Tryz.prog w "strings.asciiSpace" .u8 Lib.asciiSpaceTab
  lt : 2 < w.heap.size
end Go.Proofs.YtaijpiebjhhkjaaGreatDoor
