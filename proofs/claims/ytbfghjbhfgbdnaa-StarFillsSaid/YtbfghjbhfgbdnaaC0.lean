/- A part of the proofs of the laws. -/
import Derived.Test.YtbfghjbhfgbdnaaVmFrame
import Derived.ProofKit
import Derived.WalkKit
import Derived.Test.YtbfghjbhfgbdnaaRows
set_option linter.unusedSimpArgs false
set_option linter.unusedVariables false
set_option maxHeartbeats 8000000
set_option maxRecDepth 100000
open Go.Proofs.Try
open Go Go.Proofs
namespace Go.Proofs.Ytbfghjbhfgbdnaa
theorem own:ownKnob Try.prog.godebug=none:=by kernel_rfl
theorem laidOut:laidOutB prog=true:=by kernel_rfl
end Go.Proofs.Ytbfghjbhfgbdnaa
