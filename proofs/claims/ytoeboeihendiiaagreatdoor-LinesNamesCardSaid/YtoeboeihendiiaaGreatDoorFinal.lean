import Derived.Test.YtoeboeihendiiaaGreatDoorSaid
import Derived.Test.YtoeboeihendiiaaGreatDoorPlain
import Derived.Test.YtoeboeihendiiaaGreatDoorCards
import Derived.Test.YtoeboeihendiiaaGreatDoorTie
import Derived.WalkKit
import Derived.ProofKit
import Derived.OpenShut
import Derived.LaidMore
import Derived.Lay
import Derived.SevenTiedAt
import Derived.Stop.Joined
import Derived.Deep.DeepHandedRow
set_option linter.all false
namespace Go.Proofs.YtoeboeihendiiaaGreatDoor.linesNames
open Go.ChangeShapes Go.WideShapes Go.ChangeAt Go.RowKit Go.E

theorem card : Rows.LinesNamesCardSaid :=
  Claim7.holds_tied_plain_at .later [] _ _ _ _ said (fun _ h => by cases h) wfText (fun _ h => by cases h) linesNames_row_tie rfl ⟨rfl, rfl⟩ mainI rfl plain (by kernel_rfl)
end Go.Proofs.YtoeboeihendiiaaGreatDoor.linesNames
