import Derived.Test.YtoeboeihendiiaaGreatDoorCards
set_option linter.all false
namespace Go.Proofs.YtoeboeihendiiaaGreatDoor.linesNames
theorem fact_named : (Rows.linesNamesRow.named == Tryz.prog.varsNamed 3) = true := by kernel_rfl
end Go.Proofs.YtoeboeihendiiaaGreatDoor.linesNames
