/- A part of the proofs of the laws. -/
import Derived.Test.YtbfghjbhfgbdnaaGreatVmFrame
import Derived.ProofKit
import Derived.WalkKit
import Derived.Test.YtbfghjbhfgbdnaaGreatRows
set_option linter.unusedSimpArgs false
set_option linter.unusedVariables false
set_option maxHeartbeats 8000000
set_option maxRecDepth 100000
open Go.Proofs.Tryz
open Go Go.Proofs
namespace Go.Proofs.YtbfghjbhfgbdnaaGreat
theorem own:ownKnob Tryz.prog.godebug=none:=by kernel_rfl
theorem laidOut:laidOutB prog=true:=by kernel_rfl
end Go.Proofs.YtbfghjbhfgbdnaaGreat
