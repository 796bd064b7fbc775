/- A part of the proofs of the laws. -/
import Derived.Test.YtahbknnehddjgaaVmFrame
import Derived.ProofKit
import Derived.WalkKit
import Derived.Test.YtahbknnehddjgaaRows
set_option linter.unusedSimpArgs false
set_option linter.unusedVariables false
set_option maxHeartbeats 8000000
set_option maxRecDepth 100000
open Go Go.Proofs
namespace Go.Proofs.Ytahbknnehddjgaa
theorem own:ownKnob Try.prog.godebug=none:=by kernel_rfl
theorem laidOut:laidOutB Try.prog=true:=by kernel_rfl
end Go.Proofs.Ytahbknnehddjgaa
