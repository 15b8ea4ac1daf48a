/- The plain law of this claim: CircuitOf. No program in sight. -/
import Derived.Test.YthilnjkcemdfeaaGreatPLib2
namespace Go.Proofs.YthilnjkcemdfeaaGreat
open Go.GL
open Cc (BS LS CircP Grow GoodL Good litN lines negs seqP ifP opP net RelB FOk FU)
set_option linter.unusedSimpArgs false
set_option maxRecDepth 100000
def c0:D.Circuit:=⟨0,[]⟩
section
variable {t:D.Term} (h:termB t = true) (hs:msz t ≤ 1048576)
include h hs
end
end Go.Proofs.YthilnjkcemdfeaaGreat
