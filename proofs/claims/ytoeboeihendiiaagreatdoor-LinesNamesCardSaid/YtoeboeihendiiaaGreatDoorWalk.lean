import Derived.Test.YtoeboeihendiiaaGreatDoorExample
import Derived.Test.YtoeboeihendiiaaGreatDoorAwake
set_option linter.all false
namespace Go.Proofs.YtoeboeihendiiaaGreatDoor.linesNames
open Go.E
def tabL : Tab := [(5, [], .bool true), (4, [example_], want_)]
theorem okL {w : World} {v : Value} (h : v.oneCell = true ∧ ∃ c e fz, (sigOf w).ro 6 = some (.cells c e fz) ∧ c[0]? = some v) : TabOk Tryz.prog (sigOf w) tabL :=
  TabOk.cons mixed (exT h (ok4 h)) (ranAwake v) (by kernel_rfl) (by kernel_rfl) <|
  TabOk.cons mixed (exH h) (ranExample v) (by kernel_rfl) (by kernel_rfl) TabOk.nil
set_option maxRecDepth 1000000 in
theorem ran (v : Value) : resTrue (ev Tryz.prog (z v tabL) 1000000 (.call 3 []) ⟨.leaf, 0⟩) = true := by kernel_rfl
theorem walk (w : World) (v : Value) (h : v.oneCell = true ∧ ∃ c e fz, (sigOf w).ro 6 = some (.cells c e fz) ∧ c[0]? = some v) : Calls Tryz.prog 3 #[] w fun e w' => e = .returned (.bool true) ∧ w.keptBut w' (fun _ => False) :=
  closed_true mixed (ran v) w (exT h (okL h))
end Go.Proofs.YtoeboeihendiiaaGreatDoor.linesNames
