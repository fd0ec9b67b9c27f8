import Derived.Test.YtoeboeihendiiaaGreatDoorWalk
import Derived.Test.YtoeboeihendiiaaGreatDoorF0b
import Derived.Test.YtoeboeihendiiaaGreatDoorCards
import Derived.Test.YtoeboeihendiiaaGreatDoorTie
import Derived.WalkKit
import Derived.ProofKit
import Derived.OpenShut
import Derived.LaidMore
import Derived.Lay
import Derived.SevenTiedAt
import Derived.Stop.Joined
import Derived.Deep.DeepHandedRow
set_option linter.all false
namespace Go.Proofs.YtoeboeihendiiaaGreatDoor.linesNames
open Go.ChangeShapes Go.WideShapes Go.ChangeAt Go.RowKit Go.E

set_option maxRecDepth 100000 in
theorem sentinel {W : World} (h : laidMetH Tryz.prog Rows.linesNamesRow.laid W) : ∃ v : Value, v.oneCell = true ∧ ∃ c e fz, (sigOf W).ro 6 = some (.cells c e fz) ∧ c[0]? = some v := by
  refine laid_iface' (n := "strconv.ErrSyntax") (d := Rows.laid_strconv_ErrSyntax) (t := 51) h ?_ (by kernel_rfl) (by kernel_rfl) (by kernel_rfl)
  exact List.mem_of_getElem? (i := 11) (by kernel_rfl)

theorem contract (H : Type) (enc : TypeId × Value → H) (W : World) (args : Array Value) (ds gs : List (DataW H)) (before : List MemPlace)
    (hW : DataW.Whole enc Tryz.prog Tryz.f3.params.toList Rows.linesNamesSpec.vars false W args.toList ds gs before) (hX : laidMetH Tryz.prog Rows.linesNamesRow.laid W) :
    Calls Tryz.prog 3 args W fun e W' => ∃ v, e = .returned v ∧ Rows.linesNamesSpec.post enc Tryz.prog Tryz.f3 false true false false W args v W' := by
  have hW' := hW
  obtain ⟨p, q, hA0, hV, rfl, hfz, hnd⟩ := hW
  have hA : DataW.TrodAll enc Tryz.prog W 0 (fun _ => true) true Tryz.f3.params.toList args.toList ds p := hA0
  rw [Tryz.params3] at hA
  obtain ⟨hargs, rfl, rfl⟩ := trodAll_nil hA
  obtain rfl : args = #[] := by cases args; simp_all
  obtain ⟨rfl, rfl⟩ := trodVars_none hV
  obtain ⟨v, hv⟩ := sentinel hX
  refine (walk W v hv).mono fun e W' ⟨he, hk⟩ => ?_
  subst he
  exact ⟨_, rfl, post_of_kept (pa := []) (pv := []) hW' (fun _ _ _ => (trodAll_cons_mk (shut_bool Tryz.underlying4 _) trodAll_mk0)) (fun sp _ => trodAll_mk0) (fun _ _ => rfl) hk⟩

end Go.Proofs.YtoeboeihendiiaaGreatDoor.linesNames
