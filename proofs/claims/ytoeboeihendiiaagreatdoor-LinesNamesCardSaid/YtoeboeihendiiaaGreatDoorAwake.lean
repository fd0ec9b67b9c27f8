import Derived.Test.YtoeboeihendiiaaGreatDoorTables
set_option linter.all false
namespace Go.Proofs.YtoeboeihendiiaaGreatDoor.linesNames
open Go.E
set_option maxRecDepth 1000000 in
theorem ranAwake (v : Value) : resOf (ev Tryz.prog (z v tab4) 1000000 (.call 5 []) ⟨.leaf, 0⟩) = some (.bool true) := by kernel_rfl
end Go.Proofs.YtoeboeihendiiaaGreatDoor.linesNames
