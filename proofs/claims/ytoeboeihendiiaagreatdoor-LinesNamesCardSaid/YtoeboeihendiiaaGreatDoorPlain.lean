import Derived.Test.YtoeboeihendiiaaGreatDoorLifted
import Derived.Test.YtoeboeihendiiaaGreatDoorCards
import Derived.Test.YtoeboeihendiiaaGreatDoorTie
import Derived.WalkKit
import Derived.ProofKit
import Derived.OpenShut
import Derived.LaidMore
import Derived.Lay
import Derived.SevenTiedAt
import Derived.Stop.Joined
import Derived.Deep.DeepHandedRow
set_option linter.all false
namespace Go.Proofs.YtoeboeihendiiaaGreatDoor.linesNames
open Go.ChangeShapes Go.WideShapes Go.ChangeAt Go.RowKit Go.E

theorem plain (f : FuncId) (fn : Func) (hf : Tryz.pinned.checked.prog.funcNamed "firebreak/firebreaklaw24.LinesNames" = some f) (hfn : Tryz.pinned.checked.prog.funcs[f]? = some fn) :
    Rows.linesNamesCard.stood.looks = Tryz.pinned.checked.prog.looks [] ∧ ∀ (j : Nat) t, fn.params[j]? = some t → Tryz.pinned.checked.prog.wantsStandIn t = false := by
  obtain rfl : f = 3 := Option.some.inj ((show Tryz.prog.funcNamed "firebreak/firebreaklaw24.LinesNames" = some 3 by kernel_rfl).symm.trans hf) |>.symm
  obtain rfl : fn = Tryz.f3 := (Option.some.inj (Tryz.func3.symm.trans hfn)).symm
  refine ⟨by kernel_rfl, fun j t ht => ?_⟩
  rw [Tryz.params3] at ht
  simp at ht

theorem wfText : Rows.linesNamesRow.wfByText (OpenSpec.ofChange Rows.linesNamesSpec) = true := by kernel_rfl
theorem mainI : Tryz.pinned.checked.prog.mainIs = some (true, "aca2e293942ebaf7683bb54822b9028a6a91bcae559c35211be3340cd3fcbe58".toList) := by kernel_rfl
end Go.Proofs.YtoeboeihendiiaaGreatDoor.linesNames
