/- The plain law of this claim. No program in sight. -/
import Derived.Test.YtckeihpjfeonmaaPGates
namespace Go.Proofs.Ytckeihpjfeonmaa
open Go.GL
end Go.Proofs.Ytckeihpjfeonmaa
