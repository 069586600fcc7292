/-
  The examples of the chapter, reckoned.
-/
import Derived.Test.YthahbiahlpcgeaaGreatDoorGD1
namespace Go.Proofs.YthahbiahlpcgeaaGreatDoor.Sym
set_option maxRecDepth 100000
theorem awake_true : L23_awake = some true := by decide +kernel
end Go.Proofs.YthahbiahlpcgeaaGreatDoor.Sym
