/- What package grapevineref01 yields: the same, by definition. -/
import Derived.Test.YtmpfeaoofkkhjaaGreatFW
namespace Go.Proofs.YtmpfeaoofkkhjaaGreat
open Go Go.GV
attribute [local irreducible] cw Go.GV.SpecM Go.GV.wpList Exit.then Exit.inBlock Go.GV.bodyPost wpPl wpPm wpPn TS rnd rPost YieldsB wpPT ptK
set_option maxRecDepth 10000
set_option maxHeartbeats 4000000
set_option linter.unusedSimpArgs false
set_option linter.unusedVariables false
end Go.Proofs.YtmpfeaoofkkhjaaGreat
