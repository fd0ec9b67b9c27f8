import Derived.Test.YtoeboeihendiiaaGreatDoorX2
set_option linter.all false
namespace Go.X
variable {P : Program} {σ : Sig}

abbrev Env := Nat → Value

def upd (ρ : Env) (d : Option Nat) (v : Value) : Env :=
  match d with
  | none => ρ
  | some d => fun i => match Nat.beq i d with | true => v | false => ρ i

def ev (ρ : Env) : Operand → Value
  | .tmp t => ρ t
  | .const v => v
  | .global g => .pointer (some ⟨g, 0, none⟩)
  | .func f => .func (.func f) #[] #[]

def actOf (n : Nat) (ds : List Deferred) (ρ : Env) : Act := { tmps := (Array.range n).map ρ, defers := ds }

theorem actOf_put (n : Nat) (ds : List Deferred) (ρ : Env) (d : Option Nat) (v : Value) : (actOf n ds ρ).put d v = actOf n ds (upd ρ d v) := by
  cases d with
  | none => rfl
  | some d =>
    simp only [Act.put, actOf, upd, Act.mk.injEq, and_true]
    apply Array.ext
    · simp
    · intro i h1 h2
      simp only [Array.size_setIfInBounds, Array.size_map, Array.size_range] at h1
      by_cases hi : i = d
      · subst hi; simp
      · rw [Array.getElem_setIfInBounds_ne (by simpa using h1) (Ne.symm hi)]
        have : Nat.beq i d = false := by cases hb : Nat.beq i d with
          | false => rfl
          | true => exact absurd (Nat.eq_of_beq_eq_true hb) hi
        simp [this]

def okOpd (n : Nat) : Operand → Bool
  | .tmp t => decide (t < n)
  | _ => true

theorem actOf_eval {n : Nat} {ds : List Deferred} {ρ : Env} {x : Operand} (h : okOpd n x = true) : (actOf n ds ρ).eval x = ev ρ x := by
  cases x with
  | tmp t =>
    have : t < n := by simpa [okOpd] using h
    simp [Act.eval, actOf, ev, this]
  | _ => rfl

def okOp (n : Nat) (ops : Array Oper) (o : Oper) : Bool :=
  o.op.operands.all (okOpd n) && (match o.op with | .select .. => false | .defer _ => false | _ => true) &&
    (match o.guard with | none => true | some (j, _) => match (ops[j]?).bind (·.dst) with | some d => decide (d < n) | none => true)
def opsOk (n : Nat) (ops : Array Oper) : Bool := ops.all (okOp n ops)

theorem execOp_actOf {n : Nat} {ds : List Deferred} {ρ : Env} {ops : Array Oper} {o : Oper} (h : okOp n ops o = true) : execOp (actOf n ds ρ).eval o = execOp (ev ρ) o := by
  simp only [okOp, Bool.and_eq_true] at h
  refine execOp_congr o (fun cs b he => by rw [he] at h; exact absurd h.1.2 (by simp)) fun x hx => actOf_eval ?_
  have := h.1.1
  rw [Array.all_eq_true_iff_forall_mem] at this
  exact this x hx

theorem okOp_defer {n : Nat} {ops : Array Oper} {o : Oper} (h : okOp n ops o = true) : ∀ c, o.op ≠ .defer c := by
  intro c hc
  simp only [okOp, Bool.and_eq_true] at h
  rw [hc] at h
  exact absurd h.1.2 (by simp)

def boolOf : Value → Option Bool
  | .bool b => some b
  | _ => none

def wantF (ops : Array Oper) (ρ : Env) (o : Oper) : Bool :=
  match o.guard with
  | none => true
  | some (j, want) => (match (ops[j]?).bind (·.dst) with | some d => boolOf (ρ d) | none => none) == some want

theorem wanted_actOf {n : Nat} {ds : List Deferred} {ρ : Env} {ops : Array Oper} {o : Oper} (h : okOp n ops o = true) : Region.wanted o (yielded ops (actOf n ds ρ).tmps) = wantF ops ρ o := by
  unfold Region.wanted wantF
  simp only [okOp, Bool.and_eq_true] at h
  have h := h.2
  cases hg : o.guard with
  | none => rfl
  | some jw =>
    obtain ⟨j, want⟩ := jw
    simp only [hg] at h
    simp only
    congr 1
    unfold yielded
    cases hd : (ops[j]?).bind (·.dst) with
    | none => rfl
    | some d =>
      simp only [hd] at h
      have hd : d < n := by simpa using h
      simp [actOf, hd]
      cases ρ d <;> rfl

/-! ### reading and writing several cells -/
def RdN (σ : Sig) (L : Hp) (a : Addr) (n : Nat) (vs : Array Value) : Prop :=
  vs.size = n ∧ a.spot = none ∧ ∃ c e fz, At σ L a.block (.cells c e fz) ∧ ∀ i, i < n → c[a.off + i]? = vs[i]?

theorem add_mk (b off n : Nat) : Addr.add ⟨b, off, none⟩ n = ⟨b, off + n, none⟩ := by
  unfold Addr.add
  split
  · subst_vars; rfl
  · rfl

theorem add_add (a : Addr) (ha : a.spot = none) (i : Nat) : a.add i = ⟨a.block, a.off + i, none⟩ := by
  obtain ⟨b, off, s⟩ := a
  subst ha
  exact add_mk b off i

theorem xq_loadCellsFrom {a : Addr} {L : Hp} {vs : Array Value} {Q : Array Value → Prop} {c : Array Value} {e : TypeId} {fz : Nat × Nat} (ha : a.spot = none)
    (hat : At σ L a.block (.cells c e fz)) : ∀ (m k : Nat) (acc : Array Value), acc.size = k → (∀ i, k ≤ i → i < k + m → c[a.off + i]? = vs[i]?) → vs.size = k + m →
      (∀ i, i < k → acc[i]? = vs[i]?) → Q vs → xq P σ (loadCellsFrom a k m acc) Q L
  | 0, k, acc, hk, _, hs, hacc, hq => by
    have : acc = vs := by
      apply Array.ext_getElem?
      intro i
      by_cases hi : i < k
      · exact hacc i hi
      · rw [Array.getElem?_eq_none (by omega), Array.getElem?_eq_none (by omega)]
    subst this
    exact hq
  | m + 1, k, acc, hk, hc, hs, hacc, hq => by
    have hlt : k < vs.size := by omega
    have hv := hc k (Nat.le_refl _) (by omega)
    rw [Array.getElem?_eq_getElem hlt] at hv
    show xq P σ (Go.load (a.add k) >>= fun v => loadCellsFrom a (k + 1) m (acc.push v)) Q L
    rw [xq_bind]
    refine ⟨vs[k], ⟨by rw [add_add a ha], c, e, fz, by rw [add_add a ha]; exact hat, by rw [add_add a ha]; exact hv⟩, ?_⟩
    refine xq_loadCellsFrom ha hat m (k + 1) _ (by simp [hk]) (fun i h1 h2 => hc i (by omega) (by omega)) (by omega) ?_ hq
    intro i hi
    rw [Array.getElem?_push]
    by_cases h : i = acc.size
    · subst h; simp [hk, hlt]
    · rw [if_neg h]; exact hacc i (by omega)

theorem xq_loadCells {a : Addr} {L : Hp} {n : Nat} {vs : Array Value} {Q : Array Value → Prop} (hr : RdN σ L a n vs) (hq : Q vs) : xq P σ (loadCells a n) Q L := by
  obtain ⟨hs, ha, c, e, fz, hat, hc⟩ := hr
  exact xq_loadCellsFrom ha hat n 0 #[] rfl (fun i _ h => hc i (by omega)) (by omega) (fun i h => absurd h (by omega)) hq

def isAggT (P : Program) (t : TypeId) : Option Bool :=
  match P.underlying t with
  | some (.struct _) | some (.array _ _) => some true
  | some _ => some false
  | none => none
def szT (P : Program) (t : TypeId) : Option Nat := (P.info? t).map (·.size)

theorem xq_isAgg {t : TypeId} {b : Bool} {L : Hp} {Q : Bool → Prop} (h : isAggT P t = some b) (hq : Q b) : xq P σ (isAgg t) Q L := by
  unfold isAgg underlying isAggT at *
  rw [xq_bind, xq_bind]
  simp only [program, xq]
  cases hu : P.underlying t with
  | none => simp [hu] at h
  | some d =>
    simp only [hu] at h
    cases d <;> simp only [Option.some.injEq] at h <;> subst h <;> exact hq

theorem xq_sizeOf {t : TypeId} {n : Nat} {L : Hp} {Q : Nat → Prop} (h : szT P t = some n) (hq : Q n) : xq P σ (sizeOf t) Q L := by
  unfold sizeOf typeInfo szT at *
  rw [xq_bind, xq_bind]
  simp only [program, xq]
  cases hu : P.info? t with
  | none => simp [hu] at h
  | some d =>
    simp only [hu, Option.map_some, Option.some.injEq] at h
    subst h
    exact hq

theorem xq_loadVar_cell {t : TypeId} {a : Addr} {L : Hp} {v : Value} {Q : Value → Prop} (h : isAggT P t = some false) (hr : Rd σ L a v) (hq : Q v) :
    xq P σ (loadVar t a) Q L := by
  unfold loadVar
  rw [xq_bind]
  exact xq_isAgg h (by simp only [Bool.false_eq_true, if_false]; exact ⟨v, hr, hq⟩)

theorem xq_loadVar_agg {t : TypeId} {a : Addr} {L : Hp} {n : Nat} {vs : Array Value} {Q : Value → Prop} (h : isAggT P t = some true) (hn : szT P t = some n)
    (hr : RdN σ L a n vs) (hq : Q (.agg vs)) : xq P σ (loadVar t a) Q L := by
  unfold loadVar
  rw [xq_bind]
  refine xq_isAgg h ?_
  simp only [if_true]
  rw [xq_bind]
  refine xq_sizeOf hn ?_
  rw [xq_bind]
  exact xq_loadCells hr hq

/-- the cells vs, from off on, laid into c -/
def putN (c : Array Value) (off : Nat) : List Value → Array Value
  | [] => c
  | v :: vs => putN (c.setIfInBounds off v) (off + 1) vs

def WrN (L : Hp) (a : Addr) (vs : List Value) (L' : Hp) : Prop :=
  a.spot = none ∧ ∃ c e fz, a.off + vs.length ≤ c.size ∧ (∀ i, i < vs.length → (decide (fz.1 ≤ a.off + i) && decide (a.off + i < fz.2)) = false) ∧
    Rep L a.block (.cells c e fz) (.cells (putN c a.off vs) e fz) L'

theorem xwp_storeCells {a : Addr} : ∀ (vs : List Value) (i : Nat) {L L' : Hp} {Q : Unit → Hp → Prop}, (∀ v ∈ vs, v.oneCell = true) → WrN L (a.add i) vs L' → Q () L' → a.spot = none →
    xwp P σ (storeCells a vs i) Q L
  | [], i, L, L', Q, _, hw, hq, _ => by
    obtain ⟨_, c, e, fz, _, _, A, B, rfl, rfl⟩ := hw
    exact hq
  | v :: vs, i, L, L', Q, hv, hw, hq, ha => by
    obtain ⟨h1, c, e, fz, hl, hf, hr⟩ := hw
    simp only [List.length_cons] at hl hf
    show xwp P σ (Go.store (a.add i) v >>= fun _ => storeCells a vs (i + 1)) Q L
    rw [xwp_bind]
    have hadd : a.add (i + 1) = ⟨(a.add i).block, (a.add i).off + 1, none⟩ := by rw [add_add a ha, add_add a ha]; simp; omega
    obtain ⟨A, B, hA, hB⟩ := hr
    refine ⟨hv v (by simp), A ++ ((a.add i).block, .cells (c.setIfInBounds (a.add i).off v) e fz) :: B, ⟨h1, c, e, fz, by omega, by simpa using hf 0 (by omega), A, B, hA, rfl⟩, ?_⟩
    refine xwp_storeCells vs (i + 1) (fun u hu => hv u (by simp [hu])) ?_ hq ha
    rw [hadd]
    refine ⟨rfl, c.setIfInBounds (a.add i).off v, e, fz, by simp; omega, fun k hk => ?_, A, B, rfl, hB⟩
    have := hf (k + 1) (by omega)
    simp only [Nat.add_assoc, Nat.add_comm 1 k] at this ⊢
    exact this

theorem xwp_storeVar {t : TypeId} {a : Addr} {v : Value} {L L' : Hp} {Q : Unit → Hp → Prop} (hn : szT P t = some v.cells.size) (hv : ∀ u ∈ v.cells.toList, u.oneCell = true)
    (ha : a.spot = none) (hw : WrN L a v.cells.toList L') (hq : Q () L') : xwp P σ (storeVar t a v) Q L := by
  unfold storeVar
  rw [xwp_bind]
  refine xq_xwp (Q := fun n => n = v.cells.size) _ ?_ (xq_sizeOf hn rfl)
  rintro _ rfl
  simp only [ne_eq, not_true_eq_false, if_false]
  exact xwp_storeCells _ 0 hv (by rw [add_add a ha, Nat.add_zero]; obtain ⟨b, o, s⟩ := a; cases ha; exact hw) hq ha

theorem Wr.toN {L L' : Hp} {a : Addr} {v : Value} (h : Wr L a v L') : WrN L a [v] L' := by
  obtain ⟨h1, c, e, fz, hl, hf, hr⟩ := h
  refine ⟨h1, c, e, fz, by simp; omega, fun i hi => ?_, hr⟩
  obtain rfl : i = 0 := by simpa using hi
  simpa using hf

/-! ### the operations, by what they come to -/
def onPtr (v : Value) (k : Addr → Prop) : Prop := match v with | .pointer (some a) => k a | _ => False
def onBool (v : Value) (k : Bool → Prop) : Prop := match v with | .bool b => k b | _ => False
def onInt (v : Value) (k : IntKind → Int → Prop) : Prop := match v with | .int i n => k i n | _ => False
def onSlice (v : Value) (k : Option Addr → Nat → Nat → Prop) : Prop := match v with | .slice a n c => k a n c | _ => False
def onAgg (v : Value) (k : Array Value → Prop) : Prop := match v with | .agg c => k c | _ => False
def onTuple (v : Value) (k : Array Value → Prop) : Prop := match v with | .tuple c => k c | _ => False
@[simp] theorem onPtr_mk (a : Addr) (k) : onPtr (.pointer (some a)) k = k a := rfl
@[simp] theorem onBool_mk (a : Bool) (k) : onBool (.bool a) k = k a := rfl
@[simp] theorem onInt_mk (i : IntKind) (n : Int) (k) : onInt (.int i n) k = k i n := rfl
@[simp] theorem onSlice_mk (a : Option Addr) (n c : Nat) (k) : onSlice (.slice a n c) k = k a n c := rfl
@[simp] theorem onAgg_mk (a : Array Value) (k) : onAgg (.agg a) k = k a := rfl
@[simp] theorem onTuple_mk (a : Array Value) (k) : onTuple (.tuple a) k = k a := rfl

def nilOk : Value → Bool
  | .pointer none | .nilIface | .nilFunc => false
  | .func (.method _) _ _ => false
  | _ => true

def fldOff (P : Program) (s : TypeId) (i : Nat) : Option Nat :=
  match P.underlying s with
  | some (.struct fs) => match fs[i]? with
    | some f => if (szT P f.type).getD 0 = 0 then none else some f.offset
    | none => none
  | _ => none

def elemOfSl (P : Program) (t : TypeId) : Option TypeId :=
  match P.underlying t with
  | some (.slice e) => some e
  | _ => none
def arrT (P : Program) (t : TypeId) : Option (Nat × TypeId) :=
  match P.underlying t with
  | some (.array n e) => some (n, e)
  | _ => none
def zeroT (P : Program) (t : TypeId) : Option Value := (P.info? t).bind (·.zero)
def bytesT (P : Program) (t : TypeId) : Option Nat := (P.info? t).map (·.bytes)

def xnext (P : Program) (σ : Sig) (K : Value → Hp → Prop) : Next → Hp → Prop
  | .value v, L => K v L
  | .skip, L => K undef L
  | .enter f args, L => Spec P σ f args K L
  | .round l f tmps assign body, L => SpecR P σ l f tmps assign body K L
  | _, _ => False

/-- what an operation comes to; where no form of its own is given: its run -/
def xop (P : Program) (σ : Sig) (o : Oper) (ρ : Env) (K : Value → Hp → Prop) (L : Hp) : Prop :=
  xwp P σ (execOp (ev ρ) o) (xnext P σ K) L

section ops
variable {ρ : Env} {K : Value → Hp → Prop} {L L' : Hp} {dst : Option Tmp} {ty : TypeId} {pos : String} {after : Array Edge} {guard : Option (Nat × Bool)}

theorem xv {s : Sem Value} : xwp P σ (do pure (Next.value (← s))) (xnext P σ K) L = xwp P σ s K L := by
  rw [xwp_bind]; rfl
theorem xu {s : Sem Unit} : xwp P σ (do s; pure Next.skip) (xnext P σ K) L = xwp P σ s (fun _ L => K undef L) L := by
  rw [xwp_bind]; rfl

theorem xop_move {x : Operand} : xop P σ ⟨dst, .move x, ty, pos, after, guard⟩ ρ K L = K (ev ρ x) L := rfl
theorem xop_assign {x : Operand} : xop P σ ⟨dst, .assign x, ty, pos, after, guard⟩ ρ K L = K (ev ρ x) L := rfl

theorem xop_pick {c a b : Operand} (h : onBool (ev ρ c) fun t => K (if t then ev ρ a else ev ρ b) L) : xop P σ ⟨dst, .pick c a b, ty, pos, after, guard⟩ ρ K L := by
  unfold xop
  simp only [execOp]
  cases hc : ev ρ c <;> simp only [hc, onBool] at h <;> first | exact h.elim | skip
  rw [xwp_bind]
  exact h

theorem xop_nilCheck {x : Operand} (hn : nilOk (ev ρ x) = true) (h : K (ev ρ x) L) : xop P σ ⟨dst, .nilCheck x, ty, pos, after, guard⟩ ρ K L := by
  unfold xop
  simp only [execOp]
  generalize ev ρ x = v at *
  match v, hn with
  | .pointer (some a), _ => exact h
  | .func (.func f) a b, _ => exact h
  | .func (.methodOf f n) a b, _ => exact h
  | .func (.via _ _ _ _) a b, _ => exact h
  | .func (.yield _) a b, _ => exact h
  | .bool _, _ | .int _ _, _ | .float _ _, _ | .complex _ _ _, _ | .string _, _ | .slice _ _ _, _ | .map _, _ | .chan _, _ | .iface _ _, _ | .agg _, _ | .tuple _, _ => exact h

theorem xop_load_cell {t : TypeId} {x : Operand} (ht : isAggT P t = some false) (h : onPtr (ev ρ x) fun a => ∃ v, Rd σ L a v ∧ K v L) :
    xop P σ ⟨dst, .load t x, ty, pos, after, guard⟩ ρ K L := by
  unfold xop
  simp only [execOp]
  rw [xv]
  unfold Instr.loadAt Instr.sureAddr
  generalize ev ρ x = v at *
  match v, h with
  | .pointer (some a), ⟨v, hr, hk⟩ =>
    rw [xwp_bind]
    exact xq_xwp (Q := fun u => u = v) _ (fun _ hu => hu ▸ hk) (xq_loadVar_cell ht hr rfl)

theorem xop_load_agg {t : TypeId} {x : Operand} {n : Nat} (ht : isAggT P t = some true) (hn : szT P t = some n) (h : onPtr (ev ρ x) fun a => ∃ vs, RdN σ L a n vs ∧ K (.agg vs) L) :
    xop P σ ⟨dst, .load t x, ty, pos, after, guard⟩ ρ K L := by
  unfold xop
  simp only [execOp]
  rw [xv]
  unfold Instr.loadAt Instr.sureAddr
  generalize ev ρ x = v at *
  match v, h with
  | .pointer (some a), ⟨vs, hr, hk⟩ =>
    rw [xwp_bind]
    exact xq_xwp (Q := fun u => u = Value.agg vs) _ (fun _ hu => hu ▸ hk) (xq_loadVar_agg ht hn hr rfl)

theorem xop_store {t : TypeId} {x y : Operand} (hn : szT P t = some (ev ρ y).cells.size) (hv : ∀ u ∈ (ev ρ y).cells.toList, u.oneCell = true)
    (h : onPtr (ev ρ x) fun a => a.spot = none ∧ ∃ L', WrN L a (ev ρ y).cells.toList L' ∧ K undef L') :
    xop P σ ⟨dst, .store t x y, ty, pos, after, guard⟩ ρ K L := by
  unfold xop
  simp only [execOp]
  rw [xu]
  unfold Instr.storeAt Instr.sureAddr
  generalize ev ρ x = v at *
  match v, h with
  | .pointer (some a), ⟨ha, L', hw, hk⟩ =>
    rw [xwp_bind]
    exact xwp_storeVar hn hv ha hw hk

theorem xq_underlying {t : TypeId} {d : TypeDesc} {Q : TypeDesc → Prop} (h : P.underlying t = some d) (hq : Q d) : xq P σ (underlying t) Q L := by
  unfold underlying
  rw [xq_bind]
  simp only [program, xq, h]
  exact hq

theorem xwp_underlying {t : TypeId} {d : TypeDesc} {Q : TypeDesc → Hp → Prop} (h : P.underlying t = some d) (hq : Q d L) : xwp P σ (underlying t) Q L :=
  xq_xwp (Q := fun x => x = d) _ (fun _ hx => hx ▸ hq) (xq_underlying h rfl)
theorem xwp_sizeOf {t : TypeId} {n : Nat} {Q : Nat → Hp → Prop} (h : szT P t = some n) (hq : Q n L) : xwp P σ (sizeOf t) Q L :=
  xq_xwp (Q := fun x => x = n) _ (fun _ hx => hx ▸ hq) (xq_sizeOf h rfl)

theorem xop_fieldAddr {s : TypeId} {x : Operand} {i off : Nat} (hf : fldOff P s i = some off) (h : onPtr (ev ρ x) fun a => K (.pointer (some (a.add off))) L) :
    xop P σ ⟨dst, .fieldAddr s x i, ty, pos, after, guard⟩ ρ K L := by
  unfold xop
  simp only [execOp]
  rw [xv]
  unfold Instr.fieldAt Instr.sureAddr
  generalize ev ρ x = v at *
  unfold fldOff at hf
  cases hu : P.underlying s with
  | none => simp [hu] at hf
  | some d =>
    cases d <;> simp only [hu] at hf <;> first | (cases hf; done) | skip
    rename_i fs
    cases hfi : fs[i]? with
    | none => simp [hfi] at hf
    | some f =>
      simp only [hfi] at hf
      rw [xwp_bind]
      refine xwp_underlying hu ?_
      simp only [hfi]
      match v, h with
      | .pointer (some a), h =>
        show xwp P σ (fieldPlace a f >>= fun p => pure (.pointer (some p))) K L
        rw [xwp_bind]
        unfold fieldPlace
        rw [xwp_bind]
        cases hz : szT P f.type with
        | none => simp [hz] at hf
        | some n =>
          simp only [hz, Option.getD_some] at hf
          split at hf
          · cases hf
          · rename_i hne
            refine xwp_sizeOf hz ?_
            rw [if_neg hne]
            simp only [Option.some.injEq] at hf
            subst hf
            exact h

/-! equations -/
theorem xwp_underlying_eq {t : TypeId} {Q : TypeDesc → Hp → Prop} : xwp P σ (underlying t) Q L = (match P.underlying t with | some d => Q d L | none => False) := by
  unfold underlying
  rw [xwp_bind]
  simp only [program, xwp]
  cases P.underlying t <;> rfl
theorem xwp_sizeOf_eq {t : TypeId} {Q : Nat → Hp → Prop} : xwp P σ (sizeOf t) Q L = (match szT P t with | some d => Q d L | none => False) := by
  unfold sizeOf typeInfo szT
  rw [xwp_bind, xwp_bind]
  simp only [program, xwp]
  cases P.info? t <;> rfl
theorem xwp_typeInfo_eq {t : TypeId} {Q : TypeInfo → Hp → Prop} : xwp P σ (typeInfo t) Q L = (match P.info? t with | some d => Q d L | none => False) := by
  unfold typeInfo
  rw [xwp_bind]
  simp only [program, xwp]
  cases P.info? t <;> rfl
theorem xwp_zeroValue_eq {t : TypeId} {Q : Value → Hp → Prop} : xwp P σ (zeroValue t) Q L = (match zeroT P t with | some d => Q d L | none => False) := by
  unfold zeroValue typeInfo zeroT
  rw [xwp_bind, xwp_bind]
  simp only [program, xwp]
  cases P.info? t with
  | none => rfl
  | some i => simp only [Option.bind_some]; cases hz : i.zero <;> simp [xwp, pure, unsupported, hz]
theorem xwp_isAgg_eq {t : TypeId} {Q : Bool → Hp → Prop} : xwp P σ (isAgg t) Q L = (match isAggT P t with | some d => Q d L | none => False) := by
  unfold isAgg isAggT
  rw [xwp_bind, xwp_underlying_eq]
  cases P.underlying t with
  | none => rfl
  | some d => cases d <;> rfl
theorem xwp_pure_eq {α : Type} {a : α} {Q : α → Hp → Prop} : xwp P σ (pure a) Q L = Q a L := rfl
theorem xwp_newObj_eq {o : Obj} {Q : Nat → Hp → Prop} : xwp P σ (newObj o) Q L = ∀ b, Q b ((b, o) :: L) := rfl
theorem xwp_program_eq {Q : Program → Hp → Prop} : xwp P σ program Q L = Q P L := rfl

theorem elemOfSl_spec {t e : TypeId} (h : elemOfSl P t = some e) : P.underlying t = some (.slice e) := by
  unfold elemOfSl at h
  cases hu : P.underlying t with
  | none => simp [hu] at h
  | some d => cases d <;> simp_all
theorem arrT_spec {t e : TypeId} {n : Nat} (h : arrT P t = some (n, e)) : P.underlying t = some (.array n e) := by
  unfold arrT at h
  cases hu : P.underlying t with
  | none => simp [hu] at h
  | some d => cases d <;> simp_all

theorem xop_indexAddr_slice {t e : TypeId} {n : Nat} {x y : Operand} (ht : elemOfSl P t = some e) (hn : szT P e = some n)
    (h : onSlice (ev ρ x) fun base len _ => onInt (ev ρ y) fun _ i => ∃ a, base = some a ∧ 0 ≤ i ∧ i < len ∧ K (.pointer (some (a.add (i.toNat * n)))) L) :
    xop P σ ⟨dst, .indexAddr t x y, ty, pos, after, guard⟩ ρ K L := by
  unfold xop
  simp only [execOp]
  rw [xv]
  unfold Instr.indexAt
  generalize ev ρ x = vx at *
  generalize ev ρ y = vy at *
  have hu := elemOfSl_spec ht
  match vx, h with
  | .slice base len cap, h =>
    match vy, h with
    | .int k i, ⟨a, hb, h0, h1, hk⟩ =>
      subst hb
      simp only [asIntOf, pure_bind, xwp_bind, xwp_underlying_eq, hu]
      simp only [pure_bind, xwp_bind, xwp_pure_eq, xwp_underlying_eq, hu, h0, h1, and_self, if_true, xwp_sizeOf_eq, hn]
      exact hk

theorem xop_indexAddr_arr {t e : TypeId} {n m : Nat} {x y : Operand} (ht : arrT P t = some (m, e)) (hn : szT P e = some n)
    (h : onPtr (ev ρ x) fun a => onInt (ev ρ y) fun _ i => 0 ≤ i ∧ i < m ∧ K (.pointer (some (a.add (i.toNat * n)))) L) :
    xop P σ ⟨dst, .indexAddr t x y, ty, pos, after, guard⟩ ρ K L := by
  unfold xop
  simp only [execOp]
  rw [xv]
  unfold Instr.indexAt
  generalize ev ρ x = vx at *
  generalize ev ρ y = vy at *
  have hu := arrT_spec ht
  match vx, h with
  | .pointer (some a), h =>
    match vy, h with
    | .int k i, ⟨h0, h1, hk⟩ =>
      simp only [asIntOf, pure_bind, xwp_bind, xwp_underlying_eq, hu, Instr.sureAddr]
      simp only [pure_bind, xwp_bind, xwp_pure_eq, xwp_underlying_eq, hu, h0, h1, and_self, if_true, xwp_sizeOf_eq, hn]
      exact hk

theorem xop_alloc {t : TypeId} {z : Value} (hz : zeroT P t = some z) (h : ∀ b, K (.pointer (some ⟨b, 0, none⟩)) ((b, .cells z.cells t (0, 0)) :: L)) :
    xop P σ ⟨dst, .alloc t, ty, pos, after, guard⟩ ρ K L := by
  unfold xop
  simp only [execOp]
  rw [xv]
  unfold Instr.alloc
  simp only [xwp_bind, xwp_zeroValue_eq, hz, newVar, newRow, xwp_newObj_eq, xwp_pure_eq]
  exact h

theorem xop_box {t : TypeId} {x : Operand} (h : ∀ b, K (.pointer (some ⟨b, 0, none⟩)) ((b, .cells (ev ρ x).cells t (0, 0)) :: L)) :
    xop P σ ⟨dst, .box t x, ty, pos, after, guard⟩ ρ K L := by
  unfold xop
  simp only [execOp]
  rw [xv]
  unfold Instr.box
  simp only [xwp_bind, newVar, newRow, xwp_newObj_eq, xwp_pure_eq]
  exact h

/-- places of a struct's fields -/
def placesT (P : Program) (t : TypeId) : Option (Nat → Option (Nat × Nat)) :=
  match P.underlying t with
  | some (.struct fs) => some fun i => (fs[i]?).bind fun f => (szT P f.type).map fun n => (f.offset, n)
  | some (.array _ e) => (szT P e).map fun n i => some (i * n, n)
  | _ => none

def hasBody (P : Program) (f : FuncId) : Bool :=
  match P.funcs[f]? with
  | some fn => fn.body.isSome && !(fn.name == "runtime.NumGoroutine")
  | none => false

theorem xwp_callFunc {f : FuncId} {args : Array Value} (hb : hasBody P f = true) (h : Spec P σ f args K L) : xwp P σ (callFunc f args) (xnext P σ K) L := by
  unfold hasBody at hb
  cases hf : P.funcs[f]? with
  | none => simp [hf] at hb
  | some fn =>
    simp only [hf, Bool.and_eq_true, Bool.not_eq_true'] at hb
    unfold callFunc
    simp only [xwp_bind, xwp_program_eq, hf]
    rw [if_neg (by simp [hb.2]), if_neg (by have := hb.1; cases hx : fn.body <;> simp_all)]
    exact h

theorem xop_call {f : FuncId} {args : Array Operand} {tys : Array TypeId} (hb : hasBody P f = true) (h : Spec P σ f (args.map (ev ρ)) K L) :
    xop P σ ⟨dst, .call { callee := .value (.func f), args := args, argTypes := tys }, ty, pos, after, guard⟩ ρ K L := by
  unfold xop
  simp only [execOp, resolve, Deferred.ofValue, ev, pure_bind, invoke]
  simpa using xwp_callFunc hb h

theorem xop_callv {f : FuncId} {first cap : Array Value} {x : Operand} {args : Array Operand} {tys : Array TypeId} (hx : ev ρ x = .func (.func f) first cap) (hb : hasBody P f = true)
    (h : Spec P σ f (first ++ args.map (ev ρ) ++ cap) K L) :
    xop P σ ⟨dst, .call { callee := .value x, args := args, argTypes := tys }, ty, pos, after, guard⟩ ρ K L := by
  unfold xop
  simp only [execOp, resolve, Deferred.ofValue, hx, pure_bind, invoke]
  exact xwp_callFunc hb h

/-! binary operations -/
theorem xop_bin_int {op : BinOp} {t u : TypeId} {x y : Operand} {k : IntKind} {a b : Int} {v : Value} (hx : ev ρ x = .int k a) (hy : ev ρ y = .int k b)
    (hop : op ≠ .shl ∧ op ≠ .shr) (hv : (binOp op t (.int k a) (.int k b)) = pure v) (h : K v L) :
    xop P σ ⟨dst, .binOp op t x y u, ty, pos, after, guard⟩ ρ K L := by
  unfold xop
  simp only [execOp]
  rw [xv]
  simp only [hx, hy]
  have hg : ∀ Q, xwp P σ (eqGuard op t x y (.int k a) (.int k b)) Q L = Q () L := by
    intro Q
    unfold eqGuard
    split <;> rfl
  rw [xwp_bind, hg, hv]
  exact h

theorem xop_bin_any {op : BinOp} {t u : TypeId} {x y : Operand} {a b v : Value} (hx : ev ρ x = a) (hy : ev ρ y = b)
    (hg : eqGuard op t x y a b = pure ()) (hv : (binOp op t a b) = pure v) (h : K v L) :
    xop P σ ⟨dst, .binOp op t x y u, ty, pos, after, guard⟩ ρ K L := by
  unfold xop
  simp only [execOp]
  rw [xv]
  simp only [hx, hy]
  rw [hg, hv]
  exact h

theorem xop_unOp {op : UnOp} {t : TypeId} {x : Operand} {v : Value} (hv : Op.unary op (ev ρ x) = pure v) (h : K v L) :
    xop P σ ⟨dst, .unOp op t x, ty, pos, after, guard⟩ ρ K L := by
  unfold xop
  simp only [execOp]
  rw [xv, hv]
  exact h

theorem xop_extract {x : Operand} {i : Nat} {vs : Array Value} {v : Value} (hx : ev ρ x = .tuple vs) (hv : vs[i]? = some v) (h : K v L) :
    xop P σ ⟨dst, .extract x i, ty, pos, after, guard⟩ ρ K L := by
  unfold xop
  simp only [execOp]
  rw [xv]
  simp only [Instr.extract, hx, hv]
  exact h

def intT (P : Program) (t : TypeId) : Option IntKind :=
  match P.underlying t with
  | some (.int k) => some k
  | _ => none
theorem intT_spec {t : TypeId} {k : IntKind} (h : intT P t = some k) : P.underlying t = some (.int k) := by
  unfold intT at h
  cases hu : P.underlying t with
  | none => simp [hu] at h
  | some d => cases d <;> simp_all

theorem xop_convert_int {s d : TypeId} {x : Operand} {k0 k j : IntKind} {n : Int} (hs : intT P s = some j) (hd : intT P d = some k) (hx : ev ρ x = .int k0 n) (h : K (.int k (k.wrap n)) L) :
    xop P σ ⟨dst, .convert s d x, ty, pos, after, guard⟩ ρ K L := by
  unfold xop
  simp only [execOp]
  rw [xv]
  unfold convert
  simp only [xwp_bind, xwp_underlying_eq, intT_spec hs, intT_spec hd, hx]
  exact h

theorem xop_makeFunc {fn : Fn} {a b : Array Operand} (h : K (.func fn (a.map (ev ρ)) (b.map (ev ρ))) L) :
    xop P σ ⟨dst, .makeFunc fn a b, ty, pos, after, guard⟩ ρ K L := by
  unfold xop
  simp only [execOp]
  rw [xv]
  exact h

theorem xop_len_slice {x : Operand} {t e : TypeId} {a : Option Addr} {n c : Nat} (ht : elemOfSl P t = some e) (hx : ev ρ x = .slice a n c) (h : K (.int .i64 n) L) :
    xop P σ ⟨dst, .call { callee := .builtin .len, args := #[x], argTypes := #[t] }, ty, pos, after, guard⟩ ρ K L := by
  unfold xop
  simp only [execOp, resolve, pure_bind, invoke, builtin]
  rw [xv]
  unfold Builtin.len_
  simp only [List.map_toArray, List.map_cons, List.map_nil, List.getElem?_toArray, List.getElem?_cons_zero, hx, xwp_bind, xwp_underlying_eq, elemOfSl_spec ht]
  exact h

def isStrT (P : Program) (t : TypeId) : Bool := match P.underlying t with | some .string => true | _ => false
theorem isStrT_spec {t : TypeId} (h : isStrT P t = true) : P.underlying t = some .string := by
  unfold isStrT at h
  cases hu : P.underlying t with
  | none => simp [hu] at h
  | some d => cases d <;> simp_all

theorem xop_len_string {x : Operand} {t : TypeId} {s : ByteArray} (ht : isStrT P t = true) (hx : ev ρ x = .string s) (h : K (.int .i64 s.size) L) :
    xop P σ ⟨dst, .call { callee := .builtin .len, args := #[x], argTypes := #[t] }, ty, pos, after, guard⟩ ρ K L := by
  unfold xop
  simp only [execOp, resolve, pure_bind, invoke, builtin]
  rw [xv]
  unfold Builtin.len_
  simp only [List.map_toArray, List.map_cons, List.map_nil, List.getElem?_toArray, List.getElem?_cons_zero, hx, xwp_bind, xwp_underlying_eq, isStrT_spec ht]
  exact h

theorem xop_min {x y : Operand} {tys : Array TypeId} {k : IntKind} {a b : Int} (hx : ev ρ x = .int k a) (hy : ev ρ y = .int k b) (h : K (.int k (if b < a then b else a)) L) :
    xop P σ ⟨dst, .call { callee := .builtin .min, args := #[x, y], argTypes := tys }, ty, pos, after, guard⟩ ρ K L := by
  unfold xop
  simp only [execOp, resolve, pure_bind, invoke, builtin]
  rw [xv]
  simp only [Builtin.min_, List.map_toArray, List.map_cons, List.map_nil, List.foldlM_cons, List.foldlM_nil, hx, hy, Builtin.min2, pure_bind]
  exact h

theorem xop_max {x y : Operand} {tys : Array TypeId} {k : IntKind} {a b : Int} (hx : ev ρ x = .int k a) (hy : ev ρ y = .int k b) (h : K (.int k (if b > a then b else a)) L) :
    xop P σ ⟨dst, .call { callee := .builtin .max, args := #[x, y], argTypes := tys }, ty, pos, after, guard⟩ ρ K L := by
  unfold xop
  simp only [execOp, resolve, pure_bind, invoke, builtin]
  rw [xv]
  simp only [Builtin.max_, List.map_toArray, List.map_cons, List.map_nil, List.foldlM_cons, List.foldlM_nil, hx, hy, Builtin.max2, pure_bind]
  exact h

/-! what lies in a literal -/
def fillOk (P : Program) (t : TypeId) (vs : List (Nat × Value)) : Option (Array Value) :=
  match zeroT P t, placesT P t with
  | some z, some pl => Instr.fill pl z.cells vs
  | _, _ => none

theorem mapM_szT : ∀ (fs : List Field) {Q : List (Nat × Nat) → Hp → Prop}, (∀ f ∈ fs, (szT P f.type).isSome) →
    Q (fs.map fun (f : Field) => (f.offset, (szT P f.type).getD 0)) L → xwp P σ (fs.mapM fun (f : Field) => do pure (f.offset, ← sizeOf f.type)) Q L
  | [], Q, _, hq => hq
  | f :: fs, Q, hs, hq => by
    simp only [List.mapM_cons, xwp_bind, xwp_sizeOf_eq]
    have h0 := hs f (by simp)
    cases hz : szT P f.type with
    | none => simp [hz] at h0
    | some n =>
      simp only [xwp_pure_eq]
      refine mapM_szT fs (fun g hg => hs g (by simp [hg])) ?_
      simpa [hz] using hq

theorem xwp_map {α β : Type} {f : α → β} {s : Sem α} {Q : β → Hp → Prop} : xwp P σ (f <$> s) Q L = xwp P σ s (fun a L => Q (f a) L) L := by
  show xwp P σ (s.bind fun a => pure (f a)) Q L = _
  exact xwp_bind s _

def allSz (P : Program) (t : TypeId) : Bool :=
  match P.underlying t with
  | some (.struct fs) => fs.toList.all fun f => (szT P f.type).isSome
  | some (.array _ _) => true
  | _ => false

theorem fill_congr {p q : Nat → Option (Nat × Nat)} (h : ∀ i, p i = q i) : ∀ (l : List (Nat × Value)) (c : Array Value), Instr.fill p c l = Instr.fill q c l
  | [], c => rfl
  | (i, v) :: l, c => by
    unfold Instr.fill
    rw [h i]
    split
    · rfl
    · split
      · rfl
      · exact fill_congr h l _

theorem xwp_build {t : TypeId} {vs : List (Nat × Value)} {cs : Array Value} {K : Value → Hp → Prop}
    (hall : allSz P t = true) (h : fillOk P t vs = some cs) (hk : K (.agg cs) L) : xwp P σ (Instr.build t vs.toArray) K L := by
  unfold Instr.build
  unfold fillOk at h
  unfold allSz at hall
  cases hz : zeroT P t with
  | none => simp [hz] at h
  | some z =>
    simp only [hz] at h
    simp only [xwp_bind, xwp_zeroValue_eq, hz, xwp_underlying_eq, xwp_pure_eq]
    unfold placesT at h
    cases hu : P.underlying t with
    | none => simp [hu] at h
    | some d =>
      cases d <;> simp only [hu] at h hall <;> first | (cases hall; done) | skip
      · rename_i n e
        cases hs : szT P e with
        | none => simp [hs] at h
        | some m =>
          simp only [hs, Option.map_some] at h
          simp only [xwp_bind, xwp_sizeOf_eq, hs]
          rw [h]
          exact hk
      · rename_i fs
        obtain ⟨fl, rfl⟩ : ∃ fl : List Field, fs = fl.toArray := ⟨fs.toList, by simp⟩
        simp only [xwp_bind, List.mapM_toArray, xwp_map]
        simp only [List.all_eq_true] at hall
        refine mapM_szT fl hall ?_
        have : Instr.fill ((fl.map fun (f : Field) => (f.offset, (szT P f.type).getD 0)).toArray[·]?) z.cells vs = some cs := by
          rw [← h]
          refine fill_congr (fun i => ?_) _ _
          simp only [List.getElem?_toArray, List.getElem?_map]
          cases hf : fl[i]? with
          | none => rfl
          | some f =>
            have := hall f (List.mem_of_getElem? hf)
            cases hz : szT P f.type with
            | none => simp [hz] at this
            | some n => simp [hz]
        simp only [this]
        exact hk

theorem xop_build {t : TypeId} {ps : List (Nat × Operand)} {cs : Array Value}
    (hall : allSz P t = true) (h : fillOk P t (ps.map fun (i, x) => (i, ev ρ x)) = some cs) (hk : K (.agg cs) L) : xop P σ ⟨dst, .build t ps.toArray, ty, pos, after, guard⟩ ρ K L := by
  unfold xop
  simp only [execOp]
  rw [xv]
  simp only [List.map_toArray]
  exact xwp_build hall h hk

theorem xop_buildSlice {t e : TypeId} {n sz : Nat} {ps : List (Nat × Operand)} {z : Value} {cs : Array Value} (ht : elemOfSl P t = some e) (hs : szT P e = some sz) (hz : zeroT P e = some z)
    (hn : n * sz ≤ 2 ^ 24) (hn0 : n * sz ≠ 0)
    (h : Instr.fill (fun i => some (i * sz, sz)) ((Array.range (n * sz)).map (z.cells[· % z.cells.size]!)) (ps.map fun (i, x) => (i, ev ρ x)) = some cs)
    (hk : ∀ b, K (.slice (some ⟨b, 0, none⟩) n n) ((b, .cells cs e (0, 0)) :: L)) : xop P σ ⟨dst, .buildSlice t n ps.toArray, ty, pos, after, guard⟩ ρ K L := by
  unfold xop
  simp only [execOp]
  rw [xv]
  unfold Instr.buildSlice
  simp only [xwp_bind, xwp_underlying_eq, elemOfSl_spec ht, xwp_sizeOf_eq, hs]
  rw [if_neg (by omega), if_neg hn0]
  simp only [xwp_pure_eq, xwp_bind, xwp_zeroValue_eq, hz, List.map_toArray, h, newRow, xwp_newObj_eq]
  exact hk

theorem xop_makeSlice {t e : TypeId} {x y : Operand} {k k' : IntKind} {n m : Int} {sz by' : Nat} {z : Value} (ht : elemOfSl P t = some e) (hs : szT P e = some sz) (hz : zeroT P e = some z)
    (hb : bytesT P e = some by') (hx : ev ρ x = .int k n) (hy : ev ρ y = .int k' m) (h0 : 0 ≤ n) (h1 : n ≤ m) (h2 : m ≤ 2 ^ 47) (h3 : by' * m ≤ 2 ^ 47)
    (hk : ∀ b, K (.slice (some ⟨b, 0, none⟩) n.toNat m.toNat) ((b, .cells ((Array.range (m.toNat * sz)).map (z.cells[· % z.cells.size]!)) e (0, 0)) :: L)) :
    xop P σ ⟨dst, .makeSlice t x y, ty, pos, after, guard⟩ ρ K L := by
  unfold xop
  simp only [execOp]
  rw [xv]
  unfold Instr.makeSlice
  have hw : ∀ q : Int, 0 ≤ q → q ≤ 2 ^ 47 → IntKind.i64.wrap q = q := by
    intro q h1 h2
    simp [IntKind.wrap, IntKind.bits, IntKind.signed]
    omega
  simp only [xwp_bind, xwp_underlying_eq, elemOfSl_spec ht, hx, hy, asInt, asIntOf, pure_bind, xwp_pure_eq, xwp_typeInfo_eq]
  unfold bytesT at hb
  cases hi : P.info? e with
  | none => simp [hi] at hb
  | some inf =>
    simp only [hi, Option.map_some, Option.some.injEq] at hb
    simp only [hw m (by omega) h2, hw n h0 (by omega), hb]
    have hc : (decide (m < 0) || decide (↑by' * m > 2 ^ 48) || decide (n < 0) || decide (n > m)) = false := by
      simp; omega
    simp only [Bool.or_assoc] at hc ⊢
    simp only [hc, Bool.false_eq_true, if_false]
    simp only [xwp_bind, xwp_pure_eq, xwp_sizeOf_eq, hs, askRoom]
    rw [if_neg (by
      have : ((m.toNat * by' : Nat) : Int) = by' * m := by rw [Int.natCast_mul, Int.toNat_of_nonneg (by omega), Int.mul_comm]
      simp only [roomBytes]; omega)]
    simp only [xwp_pure_eq]
    split
    · rename_i hz0
      simp only [xwp_pure_eq, newRow, xwp_bind, xwp_newObj_eq]
      have hr : (Array.range (m.toNat * sz)).map ((#[] : Array Value)[· % (#[] : Array Value).size]!) = (Array.range (m.toNat * sz)).map (z.cells[· % z.cells.size]!) := by
        simp [hz0]
      rw [hr]
      exact hk
    · simp only [xwp_bind, xwp_zeroValue_eq, hz, xwp_pure_eq, newRow, xwp_newObj_eq]
      exact hk

/-! slicing a slice -/
def boundOf (ρ : Env) (d : Nat) : Option Operand → Option Nat
  | none => some d
  | some x => match ev ρ x with
    | .int _ n => if 0 ≤ n then some n.toNat else none
    | _ => none

theorem xwp_sliceBound {v : Value} {k : IntKind} {n : Int} {y : Nat} {c : BoundsCode} {Q : Nat → Hp → Prop} (hv : v = .int k n) (h0 : 0 ≤ n) (h1 : n ≤ y) (hq : Q n.toNat L) :
    xwp P σ (Instr.sliceBound v y c) Q L := by
  subst hv
  unfold Instr.sliceBound
  simp only [asIntOf, pure_bind, h0, h1, and_self, if_true]
  exact hq

theorem xop_slice {t e : TypeId} {x : Operand} {lo hi mx : Option Operand} {a : Option Addr} {len cap l h m sz : Nat} (ht : elemOfSl P t = some e) (hs : szT P e = some sz)
    (hx : ev ρ x = .slice a len cap) (hm : boundOf ρ cap mx = some m) (hh : boundOf ρ len hi = some h) (hl : boundOf ρ 0 lo = some l)
    (h1 : l ≤ h) (h2 : h ≤ m) (h3 : m ≤ cap) (hmx : mx.isSome = true → hi.isSome = true) (hk : K (.slice (if m = l then a else a.map (·.add (l * sz))) (h - l) (m - l)) L) :
    xop P σ ⟨dst, .slice t x lo hi mx, ty, pos, after, guard⟩ ρ K L := by
  unfold xop
  simp only [execOp]
  rw [xv]
  unfold Instr.sliceAt Instr.slice
  simp only [xwp_bind, xwp_underlying_eq, elemOfSl_spec ht, hx]
  unfold Instr.sliceBounds
  have sb : ∀ {d : Nat} {y : Operand} {r yy : Nat} {c : BoundsCode} {Q : Nat → Hp → Prop}, boundOf ρ d (some y) = some r → r ≤ yy → Q r L → xwp P σ (Instr.sliceBound (ev ρ y) yy c) Q L := by
    intro d y r yy c Q hb hle hq
    unfold boundOf at hb
    simp only at hb
    cases hv : ev ρ y <;> simp only [hv] at hb <;> first | (cases hb; done) | skip
    rename_i k n
    split at hb
    · simp only [Option.some.injEq] at hb
      subst hb
      exact xwp_sliceBound rfl (by assumption) (by omega) hq
    · cases hb
  have last : xwp P σ (sizeOf e) (fun size L => K (Value.slice (if m = l then a else a.map (·.add (l * size))) (h - l) (m - l)) L) L := by
    rw [xwp_sizeOf_eq, hs]
    exact hk
  cases mx with
  | none =>
    simp only [boundOf, Option.some.injEq] at hm; subst hm
    cases hi with
    | none =>
      simp only [boundOf, Option.some.injEq] at hh; subst hh
      cases lo with
      | none => simp only [boundOf, Option.some.injEq] at hl; subst hl; simpa only [xwp_bind, xwp_pure_eq, Option.map_none] using last
      | some z => simp only [xwp_bind, xwp_pure_eq, Option.map_none, Option.map_some]; exact sb hl (by omega) last
    | some y =>
      cases lo with
      | none => simp only [boundOf, Option.some.injEq] at hl; subst hl; simp only [xwp_bind, xwp_pure_eq, Option.map_none, Option.map_some]; exact sb hh (by omega) last
      | some z => simp only [xwp_bind, xwp_pure_eq, Option.map_none, Option.map_some]; exact sb hh (by omega) (sb hl (by omega) last)
  | some x' =>
    cases hi with
    | none => exact absurd (hmx rfl) (by simp)
    | some y =>
      cases lo with
      | none => simp only [boundOf, Option.some.injEq] at hl; subst hl; simp only [xwp_bind, xwp_pure_eq, Option.map_none, Option.map_some]; exact sb hm (by omega) (sb hh (by omega) last)
      | some z => simp only [xwp_bind, xwp_pure_eq, Option.map_some]; exact sb hm (by omega) (sb hh (by omega) (sb hl (by omega) last))
end ops
attribute [irreducible] xop
end Go.X
