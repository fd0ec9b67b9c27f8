import Derived.Test.YtoeboeihendiiaaGreatDoorF0
set_option linter.all false
namespace Go.E

def isIface (P : Program) (t : TypeId) : Bool := match P.underlying t with
  | some (.interface _) => true
  | _ => false
theorem laid_iface' {P : Program} {w : World} {l : List (String × DataW Unit)} {n : String} {d : DataW Unit} {g : Nat} {t : TypeId}
    (h : laidMetH P l w) (hm : (n, d) ∈ l.filter fun x => x.2.handleName?.isNone) (hg : P.globalNamed n = some g) (ht : (P.globals[g]?).map (·.type) = some t) (hu : isIface P t = true) :
    ∃ v, v.oneCell = true ∧ ∃ c e fz, (sigOf w).ro g = some (.cells c e fz) ∧ c[0]? = some v := by
  unfold isIface at hu
  split at hu
  · rename_i ms hms; exact laid_iface h hm hg ht hms
  · cases hu
end Go.E
