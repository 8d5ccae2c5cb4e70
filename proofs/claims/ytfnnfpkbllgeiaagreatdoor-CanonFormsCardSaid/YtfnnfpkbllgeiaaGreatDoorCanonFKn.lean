/- What is known before. -/
import Derived.Test.YtfnnfpkbllgeiaaGreatDoorCanonFDat
namespace Go.Proofs.YtfnnfpkbllgeiaaGreatDoor.CanonF
open Go.Vai
set_option maxRecDepth 100000
end Go.Proofs.YtfnnfpkbllgeiaaGreatDoor.CanonF
