/-
  An empty slice that comes out full, told as one that may be appended to.
-/
import Derived.Test.YthfoeaokfhbdaaaGreatAL25
set_option linter.unusedSimpArgs false
set_option linter.unusedVariables false
namespace Go.AL
open Go

end Go.AL
