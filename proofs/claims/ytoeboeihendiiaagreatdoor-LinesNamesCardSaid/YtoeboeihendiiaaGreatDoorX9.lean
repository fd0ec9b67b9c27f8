import Derived.Test.YtoeboeihendiiaaGreatDoorX8
set_option linter.all false
namespace Go.X
attribute [local semireducible] xop Yl
variable {P : Program} {σ : Sig} {ρ : Env} {K : Value → Hp → Prop} {L L' : Hp} {dst : Option Tmp} {ty : TypeId} {pos : String} {after : Array Edge} {guard : Option (Nat × Bool)}

/-! maps whose keys are ints: an own block -/
structure Ent where
  key : Int
  val : Value
  born : Nat

def ents (k : IntKind) (es : List Ent) : Array MapEntry := (es.map fun e => ⟨.int k e.key, e.val, e.born⟩).toArray

def findE (a : Int) : List Ent → Nat → Option (Nat × Value)
  | [], _ => none
  | e :: es, i => if a = e.key then some (i, e.val) else findE a es (i + 1)

theorem findNow_int {k : IntKind} {a : Int} : ∀ (es : List Ent) (i : Nat), Instr.findNow (.int k) (.int k a) (es.map fun e => ⟨.int k e.key, e.val, e.born⟩) i = some (findE a es i)
  | [], i => rfl
  | e :: es, i => by
    simp only [List.map_cons, Instr.findNow, Instr.sameNow, if_true, findE]
    by_cases h : a = e.key
    · simp [h]
    · have : (a == e.key) = false := by simpa using h
      simp only [this, h, if_false]
      exact findNow_int es (i + 1)

def mapT (P : Program) (t : TypeId) : Option (TypeId × TypeId) :=
  match P.underlying t with
  | some (.map k e) => some (k, e)
  | _ => none
theorem mapT_spec {t k e : TypeId} (h : mapT P t = some (k, e)) : P.underlying t = some (.map k e) := by
  unfold mapT at h
  cases hu : P.underlying t with
  | none => simp [hu] at h
  | some d => cases d <;> simp_all

theorem xop_makeMap {t : TypeId} (h : ∀ b, K (.map (some b)) ((b, .map #[] 0) :: L)) : xop P σ ⟨dst, .makeMap t none, ty, pos, after, guard⟩ ρ K L := by
  unfold xop
  simp only [execOp, Option.map_none]
  rw [xv]
  exact h

theorem xwp_checkKey {kt : TypeId} {k : IntKind} {a : Int} {b : Bool} {Q : Unit → Hp → Prop} (hk : intT P kt = some k) (hq : Q () L) : xwp P σ (Instr.checkKey b 10000 kt (.int k a)) Q L := by
  show xwp P σ (Instr.checkKey b (9999 + 1) kt (.int k a)) Q L
  unfold Instr.checkKey
  rw [xwp_bind, xwp_underlying_eq, intT_spec hk]
  exact hq

theorem xwp_findKey {kt : TypeId} {k : IntKind} {a : Int} {es : List Ent} {Q : Option (Nat × Value) → Hp → Prop} (hk : intT P kt = some k) (hq : Q (findE a es 0) L) :
    xwp P σ (Instr.findKey kt (.int k a) (es.map fun e => ⟨.int k e.key, e.val, e.born⟩)) Q L := by
  unfold Instr.findKey
  rw [xwp_bind, xwp_underlying_eq, intT_spec hk]
  simp only [findNow_int]
  exact hq

theorem xop_lookup {t kt et : TypeId} {x y : Operand} {k : IntKind} {a : Int} {r clock : Nat} {es : List Ent} {z : Value} {ok : Bool} (ht : mapT P t = some (kt, et)) (hk : intT P kt = some k) (hz : zeroT P et = some z)
    (hx : ev ρ x = .map (some r)) (hy : ev ρ y = .int k a) (hm : At σ L r (.map (ents k es) clock))
    (h : K (match findE a es 0 with | some (_, v) => (if ok then .tuple #[v, .bool true] else v) | none => (if ok then .tuple #[z, .bool false] else z)) L) :
    xop P σ ⟨dst, .lookup t x y ok, ty, pos, after, guard⟩ ρ K L := by
  unfold xop
  simp only [execOp]
  rw [xv]
  unfold Instr.lookup
  rw [xwp_bind, xwp_underlying_eq, mapT_spec ht]
  simp only [hx, hy]
  rw [xwp_bind]
  refine ⟨_, hm, trivial, ?_⟩
  simp only [pure_bind, ents]
  refine (show xwp P σ (bind (Instr.checkKey _ 10000 kt (.int k a)) _) K L from ?_)
  rw [xwp_bind]
  refine xwp_checkKey hk ?_
  rw [xwp_bind]
  refine xwp_findKey hk ?_
  cases hf : findE a es 0 with
  | none =>
    simp only [hf] at h
    rw [xwp_bind, xwp_zeroValue_eq, hz]
    exact h
  | some p =>
    obtain ⟨i, v⟩ := p
    simp only [hf] at h
    exact h

/-- what a map holds behind an entry that was set -/
def setE (a : Int) (v : Value) (clock : Nat) (es : List Ent) : List Ent × Nat :=
  match findE a es 0 with
  | some (i, _) => (es.modify i fun e => { e with key := a, val := v }, clock)
  | none => (es ++ [⟨a, v, clock⟩], clock + 1)

theorem findE_at {a : Int} : ∀ (es : List Ent) (i j : Nat) (v : Value), findE a es i = some (j, v) → ∃ e, i ≤ j ∧ es[j - i]? = some e ∧ e.key = a ∧ e.val = v
  | [], i, j, v, h => by simp [findE] at h
  | e :: es, i, j, v, h => by
    unfold findE at h
    split at h
    · rename_i ha
      simp only [Option.some.injEq, Prod.mk.injEq] at h
      obtain ⟨rfl, rfl⟩ := h
      exact ⟨e, Nat.le_refl _, by simp, ha.symm, rfl⟩
    · obtain ⟨e', h1, h2, h3, h4⟩ := findE_at es (i + 1) j v h
      refine ⟨e', by omega, ?_, h3, h4⟩
      rw [show j - i = (j - (i + 1)) + 1 from by omega]
      simpa using h2

theorem xop_mapSet {t kt et : TypeId} {m x y : Operand} {k : IntKind} {a : Int} {v : Value} {r clock : Nat} {es : List Ent} (ht : mapT P t = some (kt, et)) (hk : intT P kt = some k)
    (hm : ev ρ m = .map (some r)) (hx : ev ρ x = .int k a) (hy : ev ρ y = v) (hr : Rep L r (.map (ents k es) clock) (.map (ents k (setE a v clock es).1) (setE a v clock es).2) L') (h : K undef L') :
    xop P σ ⟨dst, .mapUpdate t m x y, ty, pos, after, guard⟩ ρ K L := by
  unfold xop
  simp only [execOp]
  rw [xu]
  unfold Instr.mapUpdate
  rw [xwp_bind, xwp_underlying_eq, mapT_spec ht]
  simp only [hx, hm, hy]
  have hat : At σ L r (.map (ents k es) clock) := by
    obtain ⟨A, B, rfl, rfl⟩ := hr
    exact .inr (by simp)
  rw [xwp_bind]
  refine ⟨_, hat, trivial, ?_⟩
  simp only [ents]
  refine (show xwp P σ (bind (Instr.checkKey _ 10000 kt (.int k a)) _) (fun _ L => K undef L) L from ?_)
  rw [xwp_bind]
  refine xwp_checkKey hk ?_
  rw [xwp_bind]
  refine xwp_findKey hk ?_
  unfold setE at hr
  cases hf : findE a es 0 with
  | none =>
    simp only [hf] at hr
    refine ⟨.map (ents k es) clock, L', ?_, trivial, h⟩
    simpa [ents] using hr
  | some p =>
    obtain ⟨i, u⟩ := p
    simp only [hf] at hr
    obtain ⟨e, _, he, hek, _⟩ := findE_at es 0 i u hf
    simp only [Nat.sub_zero] at he
    have hkey : (((es.map fun e => (⟨.int k e.key, e.val, e.born⟩ : MapEntry)).toArray[i]?).map (·.key)).getD (.int k a) = .int k a := by
      simp [he, hek]
    rw [xwp_bind]
    simp only [hkey]
    have hsb : Instr.sameBits 10000 (.int k a) (.int k a) = true := by
      show Instr.sameBits (9999 + 1) (.int k a) (.int k a) = true
      unfold Instr.sameBits
      simp
    unfold Instr.keyThatStays
    rw [if_pos hsb, xwp_pure_eq]
    refine ⟨.map (ents k es) clock, L', ?_, trivial, h⟩
    have : (es.map fun e => (⟨.int k e.key, e.val, e.born⟩ : MapEntry)).toArray.modify i (fun e => { e with key := .int k a, val := v }) = ents k (es.modify i fun e => { e with key := a, val := v }) := by
      apply Array.ext'
      apply List.ext_getElem?
      intro j
      simp only [ents, Array.toList_modify, List.getElem?_modify, List.getElem?_map]
      cases es[j]? with
      | none => split <;> rfl
      | some e => split <;> rfl
    rw [this]
    simpa [ents] using hr
end Go.X
