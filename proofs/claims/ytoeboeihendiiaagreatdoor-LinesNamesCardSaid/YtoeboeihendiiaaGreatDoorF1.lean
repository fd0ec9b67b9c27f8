import Derived.Test.YtoeboeihendiiaaGreatDoorE17
import Derived.RowKit3
import Derived.ChangeSame
set_option linter.all false
namespace Go.E
open Go.X

def sigOf (w : World) : Sig := ⟨w.tape, w.os, w.output, fun b => w.heap[b]?⟩

theorem own_nil (w : World) : Own (sigOf w) w [] :=
  ⟨by simp, fun b o h => by simp at h, fun b o h => h, fun b o h => by simp at h, rfl, rfl, rfl⟩

theorem own_kept {w w' : World} {L : Hp} (h : Own (sigOf w) w' L) : w.keptBut w' (fun _ => False) := by
  refine ⟨h.os, h.output, fun i hi => ?_⟩
  have h1 : w.heap[i]? = some w.heap[i] := Array.getElem?_eq_getElem hi
  have h2 := h.ro i _ h1
  rw [h1, h2]
  generalize w.heap[i] = o
  cases o <;> first | exact ⟨rfl, rfl, rfl, fun _ _ => rfl⟩ | exact .inr ⟨rfl, rfl⟩ | rfl

/-- a closed run, as a law's walk wants it -/
theorem closed {P : Program} {Z : Ex} (hm : P.follows .mixedOrders = true) {k : Nat} {f : FuncId} {r : Value} {v : V} {S : St} (h : ev P Z k (.call f []) ⟨.leaf, 0⟩ = .val v S) (hv : ofV v = some r) (w : World) (hz : ExOk P (sigOf w) Z) :
    Calls P f #[] w fun e w' => e = .returned r ∧ w.keptBut w' (fun _ => False) :=
  (run_sound (σ := sigOf w) hm hz h hv w [] (own_nil w)).mono fun e w' ⟨x, L', he, hx, ho⟩ => ⟨by rw [he, hx], own_kept ho⟩

def resTrue : Res → Bool
  | .val (.bool true) _ => true
  | _ => false

theorem closed_true {P : Program} {Z : Ex} (hm : P.follows .mixedOrders = true) {k : Nat} {f : FuncId} (h : resTrue (ev P Z k (.call f []) ⟨.leaf, 0⟩) = true) (w : World) (hz : ExOk P (sigOf w) Z) :
    Calls P f #[] w fun e w' => e = .returned (.bool true) ∧ w.keptBut w' (fun _ => False) := by
  unfold resTrue at h
  split at h
  · rename_i S hS
    exact closed hm hS rfl w hz
  · cases h

open Go.ChangeShapes Go.WideShapes in
/-- a law without parameters that only adds to memory -/
theorem post_of_kept {H : Type} {enc : TypeId × Value → H} {P : Program} {f : Func} {s : ChangeSpec} {apart fresh handsOn : Bool} {W W' : World} {args : Array Value} {v : Value} {ds gs : List (DataW H)} {before pa pv : List MemPlace}
    (hW : DataW.Whole enc P f.params.toList s.vars apart W args.toList ds gs before)
    (hres : ∀ (b : Nat) (sp : Nat → Bool) (hd : Bool), DataW.TrodAll enc P W' b sp hd f.resultTypes.toList (v.resultList f.resultTypes.size) (s.fn H (ds ++ gs)).results [])
    (hargs : ∀ sp : Nat → Bool, (∀ p ∈ before, sp p.block = true) → DataW.TrodAll enc P W' 0 sp true f.params.toList args.toList (s.fn H (ds ++ gs)).args pa)
    (hvars : ∀ sp : Nat → Bool, (∀ p ∈ before, sp p.block = true) → DataW.TrodVars enc P W' sp s.vars (s.fn H (ds ++ gs)).vars pv)
    (hk : W.keptBut W' (fun _ => False)) :
    s.post enc P f apart fresh handsOn false W args v W' := by
  have hold : ∀ p ∈ before, (fun b => decide (b < W.heap.size)) p.block = true := fun p hp => by simpa using hW.lt p hp
  exact ⟨ds, gs, before, [], pa, pv, hW, hres _ _ _, hargs _ hold, hvars _ hold, World.keptBut_mono (fun p hp => hp.elim) hk, fun h => by cases h⟩
end Go.E
