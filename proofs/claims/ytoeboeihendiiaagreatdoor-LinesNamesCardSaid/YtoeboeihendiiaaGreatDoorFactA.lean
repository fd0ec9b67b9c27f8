import Derived.Test.YtoeboeihendiiaaGreatDoorCards
set_option linter.all false
namespace Go.Proofs.YtoeboeihendiiaaGreatDoor.linesNames
theorem fact_inPlace : (Rows.linesNamesRow.inPlace == Tryz.prog.inPlace 3) = true := by kernel_rfl
end Go.Proofs.YtoeboeihendiiaaGreatDoor.linesNames
