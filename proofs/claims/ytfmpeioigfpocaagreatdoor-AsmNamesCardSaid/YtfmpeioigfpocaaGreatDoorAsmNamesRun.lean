import Derived.Test.YtfmpeioigfpocaaGreatDoorF1
import Derived.Test.YtfmpeioigfpocaaGreatDoorProg
import Derived.ProofKit
set_option linter.all false
namespace Go.Proofs.YtfmpeioigfpocaaGreatDoor.asmNames
open Go.E

theorem mixed : Tryz.prog.follows .mixedOrders = true := by kernel_rfl
set_option maxRecDepth 1000000 in
theorem ex : ExOk Tryz.prog ⟨112, 164⟩ where
  ne := fun fn h => by
    obtain rfl : Tryz.f112 = fn := Option.some.inj (Tryz.func112.symm.trans h)
    exact ⟨by kernel_rfl, by kernel_rfl, by kernel_rfl, by kernel_rfl⟩
  mn := fun fn h => by
    obtain rfl : Tryz.f164 = fn := Option.some.inj (Tryz.func164.symm.trans h)
    exact ⟨by kernel_rfl, by kernel_rfl, by kernel_rfl, by kernel_rfl⟩
set_option maxRecDepth 1000000 in
theorem ran : resTrue (ev Tryz.prog ⟨112, 164⟩ 1000000 (.call 5 []) ⟨.leaf, 0⟩) = true := by kernel_rfl

theorem walk (w : World) : Calls Tryz.prog 5 #[] w fun e w' => e = .returned (.bool true) ∧ w.keptBut w' (fun _ => False) := closed_true mixed ex ran w

end Go.Proofs.YtfmpeioigfpocaaGreatDoor.asmNames
