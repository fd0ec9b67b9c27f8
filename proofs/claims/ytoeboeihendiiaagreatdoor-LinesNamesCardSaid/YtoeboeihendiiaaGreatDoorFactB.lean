import Derived.Test.YtoeboeihendiiaaGreatDoorCards
set_option linter.all false
namespace Go.Proofs.YtoeboeihendiiaaGreatDoor.linesNames
theorem fact_unfollowed : (Rows.linesNamesRow.unfollowed == Tryz.prog.unfollowed 3) = true := by kernel_rfl
end Go.Proofs.YtoeboeihendiiaaGreatDoor.linesNames
