/- A part of the proofs of the laws of this seat: contracts of functions, each for every input that its text names. -/
import Derived.Test.YtbbpofkacdmjnaaVmFrame
import Derived.ProofKit
import Derived.WalkKit
import Derived.Test.YtbbpofkacdmjnaaRows
set_option linter.unusedSimpArgs false
set_option linter.unusedVariables false
set_option maxHeartbeats 2000000
open Go Go.Proofs
namespace Go.Proofs.Ytbbpofkacdmjnaa
set_option maxRecDepth 100000
theorem own : ownKnob Try.prog.godebug = none := by kernel_rfl
theorem laidOut : laidOutB Try.prog = true := by kernel_rfl
end Go.Proofs.Ytbbpofkacdmjnaa
