/-
  The seat's types, told to the set of rules.
-/
import Derived.Test.YtdkcobnhcpgpaaaGreatZT
import Derived.Test.YtdkcobnhcpgpaaaGreatAL25
namespace Go.Proofs.YtdkcobnhcpgpaaaGreat.T
open Go Go.AL
attribute [go_sem] cxP t2 t3 t4 t5 t23 t25 t27 t29 t30 t32 t36 t37 t39 t40 t42 t43 t48 t49 t51 t57 t59 t61 t63 t65 t66 t69 t74 t77 t79 t99 t108 t117 t121 t133 t142 t145 t148 t149 t150 t151 t153 t154 t156 t210 t211 t234 t284 t285 t296 t332 t333 t335 t337 t340 t344 t364 t367
end Go.Proofs.YtdkcobnhcpgpaaaGreat.T
