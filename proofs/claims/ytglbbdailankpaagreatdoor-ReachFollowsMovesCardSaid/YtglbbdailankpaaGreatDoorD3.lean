/- The examples of the documentation: sanity's own run, reckoned by the executor. -/
import Derived.Test.YtglbbdailankpaaGreatDoorD2
namespace Go.Proofs.Bc
open Go
def instL : List AV := [.nilFunc, fnv 282, fnv 283, fnv 284, fnv 285, fnv 285, fnv 285, fnv 285, fnv 285, fnv 285, fnv 285, fnv 286, fnv 287, fnv 288, fnv 289, fnv 290, fnv 290, fnv 291]
def evalL : List AV := [.nilFunc, fnv 268, fnv 269, fnv 271, fnv 272, fnv 273, fnv 274, fnv 275, fnv 277, fnv 279, fnv 281]
/-- The heap with the four variables that the examples read. -/
def heap4 (t0 t3 t7 t1 : TypeId) : Option (Tr AObj) := putO (putO (heap2 t0 t3) 7 (.cells instL t7)) 1 (.cells evalL t1)
noncomputable def saneB (t0 t3 t7 t1 : TypeId) : Bool := match heap4 t0 t3 t7 t1 with
  | some h => sameRes (.bool true) ((tools Tryz.prog K1 300).call 4 [] { h := h, c := 15, lo := 15 })
  | none => false
set_option maxRecDepth 1000000 in
theorem sane_run (t0 t3 t7 t1 : TypeId) : saneB t0 t3 t7 t1 = true := by kernel_rfl
#print axioms sane_run
end Go.Proofs.Bc
