/- A part of the proofs of the laws of this seat: contracts of functions, each for every input that its text names. -/
import Derived.Test.YtbpnklbmnihlgaaVmFrame
import Derived.ProofKit
import Derived.WalkKit
import Derived.Test.YtbpnklbmnihlgaaRows
set_option linter.unusedSimpArgs false
set_option linter.unusedVariables false
open Go Go.Proofs
namespace Go.Proofs.Ytbpnklbmnihlgaa
set_option maxRecDepth 100000
theorem own : ownKnob Try.prog.godebug = none := by kernel_rfl
theorem laidOut : laidOutB Try.prog = true := by kernel_rfl
end Go.Proofs.Ytbpnklbmnihlgaa
