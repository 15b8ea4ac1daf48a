/- Own library, part u: the arguments of a law, opened: what reads as data is a value of the Lean type. -/
import Derived.Test.YtmmhbhhcloobnaaGreatDoorGLt
import Derived.ChangeArms
import Derived.ChangeOld
import Derived.WideShapes
namespace Go.GL
open Go.RowKit

section
variable {P : Program} {t e : TypeId}
end
end Go.GL
