import Derived.Test.YtoeboeihendiiaaGreatDoorF1
import Derived.Lib.LaidU8
import Derived.LaidSub
set_option linter.all false
namespace Go.E
open Go.X

/-- what reads at an interface's type is one cell -/
theorem trod_iface_one {H : Type} {enc : TypeId × Value → H} {P : Program} {w : World} {base : Nat} {sp : Nat → Bool} {held : Bool} {fuel : Nat} {t : TypeId} {cs : List Value} {x : DataW H × List MemPlace} {ms : Array (String × TypeId)}
    (ht : P.underlying t = some (.interface ms)) (h : DataW.trod enc P w base sp held fuel t cs = some x) : ∃ v, cs = [v] ∧ v.oneCell = true := by
  cases fuel with
  | zero => simp [DataW.trod] at h
  | succ fuel =>
    rcases cs with _ | ⟨c, _ | ⟨c', r⟩⟩
    · simp [DataW.trod, ht] at h
    · refine ⟨c, rfl, ?_⟩
      cases c <;> first | rfl | (exfalso; simp [DataW.trod, ht] at h)
    · exfalso
      simp [DataW.trod, ht] at h

/-- a listed package variable of an interface's type: one cell that is read only -/
theorem laid_iface {P : Program} {w : World} {l : List (String × DataW Unit)} {n : String} {d : DataW Unit} {g : Nat} {t : TypeId} {ms : Array (String × TypeId)}
    (h : laidMetH P l w) (hm : (n, d) ∈ l.filter fun x => x.2.handleName?.isNone) (hg : P.globalNamed n = some g) (ht : (P.globals[g]?).map (·.type) = some t) (hu : P.underlying t = some (.interface ms)) :
    ∃ v, v.oneCell = true ∧ ∃ c e fz, (sigOf w).ro g = some (.cells c e fz) ∧ c[0]? = some v := by
  obtain ⟨g', t', cs, fuel, p, h1, h2, h3, h4⟩ := Lib.laidMet.reads ((laidMetH_iff.1 h).1) hm
  rw [hg] at h1
  cases h1
  rw [ht] at h2
  cases h2
  obtain ⟨v, hc, hv⟩ := trod_iface_one hu h4
  refine ⟨v, hv, ?_⟩
  unfold World.var? at h3
  rw [hg] at h3
  simp only [Option.bind_some] at h3
  cases hh : w.heap[g]? with
  | none => rw [hh] at h3; cases h3
  | some o =>
    rw [hh] at h3
    cases o with
    | cells c e fz =>
      simp only [Option.some.injEq] at h3
      subst h3
      refine ⟨c, e, fz, hh, ?_⟩
      have : c = #[v] := by rw [← Array.toArray_toList (xs := c), hc]
      rw [this]
      rfl
    | _ => cases h3
end Go.E
