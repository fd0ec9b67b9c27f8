import Derived.Test.YtoeboeihendiiaaGreatDoorCallsA
import Derived.Test.YtoeboeihendiiaaGreatDoorCallsB
set_option linter.all false
namespace Go.Proofs.YtoeboeihendiiaaGreatDoor.linesNames
open Go.E
def hes : List HE := [he1, he2, he3, he4, he5, he6, he7, he8, he9]
theorem exH {w : World} {v : Value} (h : v.oneCell = true ∧ ∃ c e fz, (sigOf w).ro 6 = some (.cells c e fz) ∧ c[0]? = some v) : ExOk Tryz.prog (sigOf w) (zM v (lookH hes)) := (exM h).heap fun e he S hn ha => by
  simp only [hes, List.mem_cons, List.not_mem_nil, or_false] at he
  rcases he with rfl | rfl | rfl | rfl | rfl | rfl | rfl | rfl | rfl
  · exact HEok.heap mixed (exM h) (heOk1 v) hn ha
  · exact HEok.heap mixed (exM h) (heOk2 v) hn ha
  · exact HEok.heap mixed (exM h) (heOk3 v) hn ha
  · exact HEok.heap mixed (exM h) (heOk4 v) hn ha
  · exact HEok.heap mixed (exM h) (heOk5 v) hn ha
  · exact HEok.heap mixed (exM h) (heOk6 v) hn ha
  · exact HEok.heap mixed (exM h) (heOk7 v) hn ha
  · exact HEok.heap mixed (exM h) (heOk8 v) hn ha
  · exact HEok.heap mixed (exM h) (heOk9 v) hn ha
set_option maxRecDepth 1000000 in
theorem ranExample (v : Value) : resOf (ev Tryz.prog (zM v (lookH hes)) 1000000 (.call 4 [example_]) ⟨.leaf, 0⟩) = some (want_) := by kernel_rfl
end Go.Proofs.YtoeboeihendiiaaGreatDoor.linesNames
