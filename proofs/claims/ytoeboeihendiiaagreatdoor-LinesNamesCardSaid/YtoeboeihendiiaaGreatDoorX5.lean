import Derived.Test.YtoeboeihendiiaaGreatDoorX4
set_option linter.all false
namespace Go.X
attribute [local semireducible] xop

/-- a frame: so many slots; of which round -/
structure Fm where
  n : Nat
  r : Option Nat

variable {P : Program} {σ : Sig} {n : Fm} {ops : Array Oper} {K : Env → Hp → Prop} {ρ : Env} {L L' : Hp}

def fn (n : Nat) (ds : List Deferred) (K : Env → Hp → Prop) : Act → Hp → Prop := fun a L => ∃ ρ, a = actOf n ds ρ ∧ K ρ L

/-- the operations of a region, one behind the other -/
def XL (P : Program) (σ : Sig) (n : Fm) (ops : Array Oper) (K : Env → Hp → Prop) (l : List Oper) (ρ : Env) (L : Hp) : Prop :=
  ∀ ds, XList P σ ops (fn n.n ds K) l (actOf n.n ds ρ) L

theorem XL.nil (h : K ρ L) : XL P σ n ops K [] ρ L := fun _ => ⟨ρ, rfl, h⟩

theorem xnext_XNext {ds : List Deferred} {o : Oper} {K' : Act → Hp → Prop} (nx : Next) (L : Hp)
    (h : xnext P σ (fun v L => Wk (K' (actOf n.n ds (upd ρ o.dst v))) L) nx L) : XNext P σ o (actOf n.n ds ρ) (fun a L => Wk (K' a) L) nx L := by
  cases nx <;> simp only [xnext, XNext, actOf_put] at h ⊢ <;> exact h

theorem xop_XOp {ds : List Deferred} {o : Oper} {K' : Act → Hp → Prop} (hok : okOp n.n ops o = true)
    (h : xop P σ o ρ (fun v L => Wk (K' (actOf n.n ds (upd ρ o.dst v))) L) L) : XOp P σ o (actOf n.n ds ρ) K' L := by
  unfold XOp
  rw [execOp_actOf hok]
  exact ⟨okOp_defer hok, xwp_mono _ (fun nx L hn => xnext_XNext nx L hn) h⟩

theorem xop_mono {o : Oper} {K K' : Value → Hp → Prop} (hk : ∀ v L, K v L → K' v L) (h : xop P σ o ρ K L) : xop P σ o ρ K' L := by
  refine xwp_mono _ (fun n L hn => ?_) h
  cases n <;> simp only [xnext] at hn ⊢
  · exact hk _ _ hn
  · exact hk _ _ hn
  · exact Spec.mono hn hk
  · exact SpecR.mono hn hk

theorem XL.op {o : Oper} {rest : List Oper} (hok : okOp n.n ops o = true) (hg : o.guard = none)
    (h : xop P σ o ρ (fun v L => Wk (XL P σ n ops K rest (upd ρ o.dst v)) L) L) : XL P σ n ops K (o :: rest) ρ L := by
  intro ds
  unfold XList
  rw [if_pos (by simp [Region.wanted, hg])]
  exact xop_XOp hok (xop_mono (fun v L h => h.mono fun L h => h ds) h)

theorem XL.opg {o : Oper} {rest : List Oper} {j d : Nat} {want b : Bool} (hok : okOp n.n ops o = true) (hg : o.guard = some (j, want)) (hd : (ops[j]?).bind (·.dst) = some d) (hb : ρ d = .bool b)
    (h : b = want → xop P σ o ρ (fun v L => Wk (XL P σ n ops K rest (upd ρ o.dst v)) L) L) (h' : b ≠ want → XL P σ n ops K rest (upd ρ o.dst undef) L) :
    XL P σ n ops K (o :: rest) ρ L := by
  intro ds
  unfold XList
  rw [wanted_actOf hok]
  have hw : wantF ops ρ o = (b == want) := by
    unfold wantF
    simp only [hg, hd, hb, boolOf]
    rfl
  rw [hw]
  split
  · rename_i hc; exact xop_XOp hok (xop_mono (fun v L h => h.mono fun L h => h ds) (h (by simpa using hc)))
  · rename_i hc; rw [actOf_put]; exact h' (by simpa using hc) ds

/-! regions that draw -/
def XD (P : Program) (σ : Sig) (n : Fm) (ops : Array Oper) (K : Env → Hp → Prop) (p : Plan) (ac : Al) (lo : List Nat) (pd : Pend) (ρ : Env) (L : Hp) : Prop :=
  ∀ ds, XPlan P σ ops (fn n.n ds K) p ac lo pd (actOf n.n ds ρ) L

theorem XD.done {ac : Al} {lo : List Nat} {pd : Pend} (h : K ρ L) : XD P σ n ops K .done ac lo pd ρ L := fun _ => ⟨ρ, rfl, h⟩

theorem XOpI.of {ds : List Deferred} {i : Nat} {o : Oper} {K' : Act → Hp → Prop} (hi : ops[i]? = some o) (hok : okOp n.n ops o = true) (hg : o.guard = none)
    (h : xop P σ o ρ (fun v L => Wk (K' (actOf n.n ds (upd ρ o.dst v))) L) L) : XOpI P σ ops i K' (actOf n.n ds ρ) L := by
  unfold XOpI
  simp only [hi]
  rw [if_pos (by simp [Region.wanted, hg])]
  exact xop_XOp hok h

theorem XOpI.ofg {ds : List Deferred} {i : Nat} {o : Oper} {K' : Act → Hp → Prop} {j d : Nat} {want b : Bool} (hi : ops[i]? = some o) (hok : okOp n.n ops o = true) (hg : o.guard = some (j, want))
    (hd : (ops[j]?).bind (·.dst) = some d) (hb : ρ d = .bool b)
    (h : b = want → xop P σ o ρ (fun v L => Wk (K' (actOf n.n ds (upd ρ o.dst v))) L) L) (h' : b ≠ want → K' (actOf n.n ds (upd ρ o.dst undef)) L) : XOpI P σ ops i K' (actOf n.n ds ρ) L := by
  unfold XOpI
  simp only [hi]
  rw [wanted_actOf hok]
  have hw : wantF ops ρ o = (b == want) := by
    unfold wantF
    simp only [hg, hd, hb, boolOf]
    rfl
  rw [hw]
  split
  · rename_i hc; exact xop_XOp hok (h (by simpa using hc))
  · rename_i hc; rw [actOf_put]; exact h' (by simpa using hc)

theorem XD.l {i : Nat} {o : Oper} {p : Plan} {ac : Al} {lo : List Nat} {pd : Pend} (hi : ops[i]? = some o) (hok : okOp n.n ops o = true) (hg : o.guard = none)
    (h : xop P σ o ρ (fun v L => Wk (fun L => recheck ops (i :: lo) L pd ∧ XD P σ n ops K p ac (i :: lo) pd (upd ρ o.dst v) L) L) L) : XD P σ n ops K (.l i p) ac lo pd ρ L :=
  fun ds => XOpI.of (K' := fun a L => recheck ops (i :: lo) L pd ∧ XPlan P σ ops (fn n.n ds K) p ac (i :: lo) pd a L) hi hok hg (xop_mono (fun v L h => h.mono fun L h => ⟨h.1, h.2 ds⟩) h)

theorem XD.lg {i : Nat} {o : Oper} {p : Plan} {ac : Al} {lo : List Nat} {pd : Pend} {j d : Nat} {want b : Bool} (hi : ops[i]? = some o) (hok : okOp n.n ops o = true) (hg : o.guard = some (j, want))
    (hd : (ops[j]?).bind (·.dst) = some d) (hb : ρ d = .bool b)
    (h : b = want → xop P σ o ρ (fun v L => Wk (fun L => recheck ops (i :: lo) L pd ∧ XD P σ n ops K p ac (i :: lo) pd (upd ρ o.dst v) L) L) L)
    (h' : b ≠ want → recheck ops (i :: lo) L pd ∧ XD P σ n ops K p ac (i :: lo) pd (upd ρ o.dst undef) L) : XD P σ n ops K (.l i p) ac lo pd ρ L :=
  fun ds => XOpI.ofg (K' := fun a L => recheck ops (i :: lo) L pd ∧ XPlan P σ ops (fn n.n ds K) p ac (i :: lo) pd a L) hi hok hg hd hb (fun hb => xop_mono (fun v L h => h.mono fun L h => ⟨h.1, h.2 ds⟩) (h hb)) (fun hb => ⟨(h' hb).1, (h' hb).2 ds⟩)

/-- operation o makes the one block ob, and tells its value -/
def Mk (P : Program) (σ : Sig) (o : Oper) (ρ : Env) (ob : Obj) (v : Nat → Value) : Prop := ∀ (K : Next → Hp → Prop) (L : Hp), (∀ b, K (.value (v b)) ((b, ob) :: L)) → xwp P σ (execOp (ev ρ) o) K L

theorem XD.rd {i : Nat} {o : Oper} {p : Plan} {ac : Al} {lo : List Nat} {pd : Pend} {ob : Obj} {v : Nat → Value} (hi : ops[i]? = some o) (hok : okOp n.n ops o = true) (hg : o.guard = none)
    (hm : Mk P σ o ρ ob v) (h : XD P σ n ops K p ((i, ob, v) :: ac) lo pd ρ L) : XD P σ n ops K (.rd i p) ac lo pd ρ L :=
  fun ds => ⟨o, ob, v, hi, ⟨hg, okOp_defer hok, fun K L hk => by rw [execOp_actOf hok]; exact hm K L hk⟩, h ds⟩

theorem XD.al {i : Nat} {o : Oper} {p : Plan} {ac : Al} {lo : List Nat} {pd : Pend} {ob : Obj} {v : Nat → Value} (hi : ops[i]? = some o) (ha : alOf i ac = some (ob, v))
    (h : ∀ b, recheck ops (i :: lo) ((b, ob) :: L) pd ∧ XD P σ n ops K p ac (i :: lo) pd (upd ρ o.dst (v b)) ((b, ob) :: L)) : XD P σ n ops K (.al i p) ac lo pd ρ L :=
  fun ds => ⟨o, ob, v, hi, ha, fun b => ⟨(h b).1, by rw [actOf_put]; exact (h b).2 ds⟩⟩

theorem XPlan.pd_mono {Q : Act → Hp → Prop} : ∀ (p : Plan) (ac : Al) (lo : List Nat) (pd pd' : Pend) (a : Act) (L : Hp), (∀ lo L, recheck ops lo L pd' → recheck ops lo L pd) →
    XPlan P σ ops Q p ac lo pd' a L → XPlan P σ ops Q p ac lo pd a L
  | .done, _, _, _, _, _, _, _, h => h
  | .u i p, ac, lo, pd, pd', a, L, hp, ⟨v, o, hi, hy, h⟩ => ⟨v, o, hi, hy, XPlan.pd_mono p ac lo pd pd' _ _ hp h⟩
  | .q i p, ac, lo, pd, pd', a, L, hp, ⟨v, o, hi, hy, h⟩ => ⟨v, o, hi, hy, XPlan.pd_mono p ac lo ((i, _) :: pd) ((i, _) :: pd') _ _ (fun _ _ (h : _ ∧ _) => ⟨h.1, hp _ _ h.2⟩) h⟩
  | .l i p, ac, lo, pd, pd', a, L, hp, h => XOpI.mono (fun _ _ ⟨h1, h2⟩ => ⟨hp _ _ h1, XPlan.pd_mono p _ _ _ _ _ _ hp h2⟩) h
  | .rd i p, ac, lo, pd, pd', a, L, hp, ⟨o, ob, v, h1, h2, h⟩ => ⟨o, ob, v, h1, h2, XPlan.pd_mono p _ _ _ _ _ _ hp h⟩
  | .al i p, ac, lo, pd, pd', a, L, hp, ⟨o, ob, v, h1, h2, h⟩ => ⟨o, ob, v, h1, h2, fun b => ⟨hp _ _ (h b).1, XPlan.pd_mono p _ _ _ _ _ _ hp (h b).2⟩⟩

/-- only reading: what an operation yields -/
def Yl (P : Program) (σ : Sig) (o : Oper) (ρ : Env) (v : Value) (L : Hp) : Prop := xq P σ (execOp (ev ρ) o) (isV v) L

theorem XD.u {i : Nat} {o : Oper} {p : Plan} {ac : Al} {lo : List Nat} {pd : Pend} {v : Value} (hi : ops[i]? = some o) (hok : okOp n.n ops o = true) (hg : o.guard = none)
    (hy : ∀ L, Yl P σ o ρ v L) (h : XD P σ n ops K p ac lo pd (upd ρ o.dst v) L) : XD P σ n ops K (.u i p) ac lo pd ρ L := by
  refine fun ds => ⟨v, o, hi, .inl ⟨by simp [Region.wanted, hg], fun L => ?_⟩, by rw [actOf_put]; exact h ds⟩
  rw [execOp_actOf hok]
  exact hy L

theorem XD.ug {i : Nat} {o : Oper} {p : Plan} {ac : Al} {lo : List Nat} {pd : Pend} {v : Value} {j d : Nat} {want b : Bool} (hi : ops[i]? = some o) (hok : okOp n.n ops o = true) (hg : o.guard = some (j, want))
    (hd : (ops[j]?).bind (·.dst) = some d) (hb : ρ d = .bool b)
    (h : b = want → (∀ L, Yl P σ o ρ v L) ∧ XD P σ n ops K p ac lo pd (upd ρ o.dst v) L) (h' : b ≠ want → XD P σ n ops K p ac lo pd (upd ρ o.dst undef) L) : XD P σ n ops K (.u i p) ac lo pd ρ L := by
  intro ds
  have hw : wantF ops ρ o = (b == want) := by
    unfold wantF
    simp only [hg, hd, hb, boolOf]
    rfl
  by_cases hc : b = want
  · refine ⟨v, o, hi, .inl ⟨by rw [wanted_actOf hok, hw]; simpa using hc, fun L => ?_⟩, by rw [actOf_put]; exact (h hc).2 ds⟩
    rw [execOp_actOf hok]
    exact (h hc).1 L
  · exact ⟨undef, o, hi, .inr ⟨by rw [wanted_actOf hok, hw]; simpa using hc, rfl⟩, by rw [actOf_put]; exact h' hc ds⟩

theorem XD.q {i : Nat} {o : Oper} {p : Plan} {ac : Al} {lo : List Nat} {pd : Pend} {v : Value} (g : Hp → Prop) (hi : ops[i]? = some o) (hok : okOp n.n ops o = true) (hg : o.guard = none)
    (hy : ∀ L, g L → Yl P σ o ρ v L) (hL : g L) (h : XD P σ n ops K p ac lo ((i, g) :: pd) (upd ρ o.dst v) L) : XD P σ n ops K (.q i p) ac lo pd ρ L := by
  refine fun ds => ⟨v, o, hi, .inl ⟨by simp [Region.wanted, hg], ?_⟩, ?_⟩
  · rw [execOp_actOf hok]; exact hy L hL
  · rw [actOf_put]
    refine XPlan.pd_mono p ac lo _ _ _ _ ?_ (h ds)
    rintro lo L ⟨h1, h2⟩
    refine ⟨?_, h2⟩
    split
    · rename_i hp
      rw [if_pos hp] at h1
      intro _
      rw [execOp_actOf hok]
      exact hy L h1
    · trivial

theorem XD.qg {i : Nat} {o : Oper} {p : Plan} {ac : Al} {lo : List Nat} {pd : Pend} {v : Value} {j d : Nat} {want b : Bool} (g : Hp → Prop) (hi : ops[i]? = some o) (hok : okOp n.n ops o = true) (hg : o.guard = some (j, want))
    (hd : (ops[j]?).bind (·.dst) = some d) (hb : ρ d = .bool b) (hy : b = want → ∀ L, g L → Yl P σ o ρ v L)
    (h : b = want → g L ∧ XD P σ n ops K p ac lo ((i, g) :: pd) (upd ρ o.dst v) L) (h' : b ≠ want → XD P σ n ops K p ac lo pd (upd ρ o.dst undef) L) : XD P σ n ops K (.q i p) ac lo pd ρ L := by
  intro ds
  have hw : wantF ops ρ o = (b == want) := by
    unfold wantF
    simp only [hg, hd, hb, boolOf]
    rfl
  by_cases hc : b = want
  · refine ⟨v, o, hi, .inl ⟨by rw [wanted_actOf hok, hw]; simpa using hc, ?_⟩, ?_⟩
    · rw [execOp_actOf hok]; exact hy hc L (h hc).1
    · rw [actOf_put]
      refine XPlan.pd_mono p ac lo _ _ _ _ ?_ ((h hc).2 ds)
      rintro lo L ⟨h1, h2⟩
      refine ⟨?_, h2⟩
      split
      · rename_i hp
        rw [if_pos hp] at h1
        intro _
        rw [execOp_actOf hok]
        exact hy hc L h1
      · trivial
  · refine ⟨undef, o, hi, .inr ⟨by rw [wanted_actOf hok, hw]; simpa using hc, rfl⟩, ?_⟩
    rw [actOf_put]
    refine XPlan.pd_mono p ac lo _ _ _ _ ?_ (h' hc ds)
    intro lo L h2
    refine ⟨?_, h2⟩
    split
    · intro hwt
      exfalso
      rw [wanted_actOf hok, hw] at hwt
      exact hc (by simpa using hwt)
    · trivial

theorem rc_no {i : Nat} {lo : List Nat} {G : Prop} (h : pendB ops i lo = false) : (if pendB ops i lo then G else True) := by rw [if_neg (by simp [h])]; trivial
theorem rc_yes {i : Nat} {lo : List Nat} {G : Prop} (h : G) : (if pendB ops i lo then G else True) := by split <;> trivial

theorem Yl.load_cell {t : TypeId} {x : Operand} {dst : Option Tmp} {ty : TypeId} {pos : String} {after : Array Edge} {guard : Option (Nat × Bool)} {a : Addr} {v : Value}
    (ht : isAggT P t = some false) (hx : ev ρ x = .pointer (some a)) (hr : Rd σ L a v) : Yl P σ ⟨dst, .load t x, ty, pos, after, guard⟩ ρ v L := by
  unfold Yl
  simp only [execOp, xq_bind, Instr.loadAt, Instr.sureAddr, hx]
  exact xq_loadVar_cell ht hr rfl

theorem Yl.load_agg {t : TypeId} {x : Operand} {dst : Option Tmp} {ty : TypeId} {pos : String} {after : Array Edge} {guard : Option (Nat × Bool)} {a : Addr} {m : Nat} {vs : Array Value}
    (ht : isAggT P t = some true) (hn : szT P t = some m) (hx : ev ρ x = .pointer (some a)) (hr : RdN σ L a m vs) : Yl P σ ⟨dst, .load t x, ty, pos, after, guard⟩ ρ (.agg vs) L := by
  unfold Yl
  simp only [execOp, xq_bind, Instr.loadAt, Instr.sureAddr, hx]
  exact xq_loadVar_agg ht hn hr rfl

/-! ### code -/
/-- the marks that ranges over functions leave -/
def marks (D : List Nat) : List Deferred := D.map fun d => { target := .collected d, args := #[] }
def markB (D : List Nat) : Hp := D.map fun d => (d, .deferred (some []))

def fnQ (n : Nat) (Q : Exit → Env → Hp → Prop) : Exit → Act → Hp → Prop := fun e a L => ∃ ρ D L0, a = actOf n (marks D) ρ ∧ L = markB D ++ L0 ∧ Q e ρ L0

def XF (P : Program) (σ : Sig) (n : Fm) (c : Code) (Q : Exit → Env → Hp → Prop) (ρ : Env) (L : Hp) : Prop :=
  ∀ D, XC P σ n.r c (fnQ n.n Q) (actOf n.n (marks D) ρ) (markB D ++ L)

variable {Q : Exit → Env → Hp → Prop}

theorem Own.mid {σ : Sig} {w : World} {A L F : Hp} (h : Own σ w ((A ++ L) ++ F)) : Own σ w (L ++ (A ++ F)) := h.perm (by
  rw [List.append_assoc]
  exact List.perm_append_comm_assoc A L F)
theorem Own.mid' {σ : Sig} {w : World} {A L F : Hp} (h : Own σ w (L ++ (A ++ F))) : Own σ w ((A ++ L) ++ F) := h.perm (by
  rw [List.append_assoc]
  exact (List.perm_append_comm_assoc A L F).symm)

theorem XC.of {r : Option Nat} {c : Code} {a : Act} {A : Hp} {ds : List Deferred} (D : List Nat) {m : Nat} (h : XC P σ r c (fun e a L => ∃ ρ, a = actOf m (marks D) ρ ∧ Q e ρ L) a L) : XC P σ r c (fnQ m Q) a (markB D ++ L) :=
  fun w F ho => wpIn_mono (h w (markB D ++ F) ho.mid) fun _ _ _ ⟨L', ⟨ρ, ha, hq⟩, ho'⟩ => ⟨markB D ++ L', ⟨ρ, D, L', ha, rfl, hq⟩, ho'.mid'⟩

theorem XF.region {id : Nat} {l : List Oper} (h : XL P σ n l.toArray (Q .normal) l ρ L) : XF P σ n (.region id l.toArray false) Q ρ L :=
  fun D => XC.of (A := []) (ds := []) D (XC.region (h (marks D)))
theorem XF.draw {id : Nat} {ops : Array Oper} (p : Plan) (hm : P.follows .mixedOrders = true) (hp : drawOk ops p = true) (h : XD P σ n ops (Q .normal) p [] [] [] ρ L) :
    XF P σ n (.region id ops true) Q ρ L := fun D => XC.of (A := []) (ds := []) D (XC.draw p hm hp (h (marks D)))

def thenF (K : Env → Hp → Prop) (Q : Exit → Env → Hp → Prop) : Exit → Env → Hp → Prop
  | .normal, ρ, L => K ρ L
  | e, ρ, L => Q e ρ L

theorem XF.mono {c : Code} {Q' : Exit → Env → Hp → Prop} (h : XF P σ n c Q ρ L) (hq : ∀ e ρ L, Q e ρ L → Q' e ρ L) : XF P σ n c Q' ρ L :=
  fun D => XC.mono (h D) fun _ _ _ ⟨ρ, D, L0, ha, hl, h⟩ => ⟨ρ, D, L0, ha, hl, hq _ _ _ h⟩

theorem XF.seq {x y : Code} (h : ∀ K : Env → Hp → Prop, (∀ ρ L, XF P σ n y Q ρ L → K ρ L) → XF P σ n x (thenF K Q) ρ L) : XF P σ n (x.seq y) Q ρ L := by
  intro D
  refine XC.seq fun K hK => ?_
  refine XC.mono (h (fun ρ L => ∀ D, K (actOf n.n (marks D) ρ) (markB D ++ L)) (fun ρ L h D => hK _ _ (h D)) D) ?_
  rintro e a L ⟨ρ, D', L0, rfl, rfl, hq⟩
  cases e <;> first | exact hq D' | exact ⟨ρ, D', L0, rfl, rfl, hq⟩

theorem XF.cond {c : Operand} {x y : Code} {t : Bool} (hok : okOpd n.n c = true) (hc : ev ρ c = .bool t) (ht : t = true → XF P σ n x Q ρ L) (hf : t = false → XF P σ n y Q ρ L) :
    XF P σ n (.cond c x y) Q ρ L := fun D => XC.cond (by rw [actOf_eval hok]; exact hc) (fun h => ht h D) (fun h => hf h D)

def inBlockF (id : Nat) (Q : Exit → Env → Hp → Prop) : Exit → Env → Hp → Prop
  | .exit id', ρ, L => if id' = id then Q .normal ρ L else Q (.exit id') ρ L
  | e, ρ, L => Q e ρ L

theorem XF.block {id : Nat} {c : Code} (h : XF P σ n c (inBlockF id Q) ρ L) : XF P σ n (.block id c) Q ρ L := by
  intro D
  refine XC.block (XC.mono (h D) ?_)
  rintro e a L ⟨ρ, D', L0, rfl, rfl, hq⟩
  cases e with
  | exit id' =>
    simp only [inBlockF, inBlockX] at *
    split
    · rename_i hi; rw [if_pos hi] at hq; exact ⟨ρ, D', L0, rfl, rfl, hq⟩
    · rename_i hi; rw [if_neg hi] at hq; exact ⟨ρ, D', L0, rfl, rfl, hq⟩
  | _ => exact ⟨ρ, D', L0, rfl, rfl, hq⟩

theorem XF.skip (h : Q .normal ρ L) : XF P σ n .skip Q ρ L := fun D => XC.skip ⟨ρ, D, L, rfl, rfl, h⟩
theorem XF.ret (h : Q .ret ρ L) : XF P σ n .ret Q ρ L := fun D => XC.ret ⟨ρ, D, L, rfl, rfl, h⟩
theorem XF.exit {id : Nat} (h : Q (.exit id) ρ L) : XF P σ n (.exit id) Q ρ L := fun D => XC.exit ⟨ρ, D, L, rfl, rfl, h⟩
theorem XF.label {l : Nat} (h : Q .normal ρ L) : XF P σ n (.label l) Q ρ L := fun D => XC.label ⟨ρ, D, L, rfl, rfl, h⟩
theorem XF.goto {l : Nat} (h : Q (.goto l) ρ L) : XF P σ n (.goto l) Q ρ L := fun D => XC.goto ⟨ρ, D, L, rfl, rfl, h⟩

theorem XF.loop {c : Code} (I : Nat → Env → Hp → Prop) (m : Nat) (h₀ : I m ρ L)
    (round : ∀ m ρ L, I m ρ L → XF P σ n c (thenF (fun ρ' L' => ∃ k, k < m ∧ I k ρ' L') Q) ρ L) : XF P σ n (.loop c) Q ρ L := by
  intro D
  refine XC.loop (fun m a L => ∃ ρ D L0, a = actOf n.n (marks D) ρ ∧ L = markB D ++ L0 ∧ I m ρ L0) m ⟨ρ, D, L, rfl, rfl, h₀⟩ ?_
  rintro m _ _ ⟨ρ, D, L, rfl, rfl, hI⟩
  refine XC.mono (round m ρ L hI D) ?_
  rintro e a L ⟨ρ, D', L0, rfl, rfl, hq⟩
  cases e with
  | normal => exact let ⟨k, hk, h⟩ := hq; ⟨k, hk, ρ, D', L0, rfl, rfl, h⟩
  | _ => exact ⟨ρ, D', L0, rfl, rfl, hq⟩

theorem XF.wk {c : Code} (R : Hp) (hp : L.Perm (L' ++ R)) (h : XF P σ n c Q ρ L') : XF P σ n c Q ρ L :=
  fun D w F ho => h D w F (ho.wk (R := R) (by rw [List.append_assoc]; exact hp.append_left _))

/-! ### a call -/
def argEnv (args : Array Value) : Env := fun i => args.getD i undef

def post (P : Program) (σ : Sig) (n : Nat) (fn : Func) (K : Value → Hp → Prop) : Exit → Env → Hp → Prop
  | .normal, ρ, L => ∃ v, xq P σ (results fn (actOf n [] ρ).tmps) (fun u => u = v) L ∧ Wk (K v) L
  | .ret, ρ, L => ∃ v, xq P σ (results fn (actOf n [] ρ).tmps) (fun u => u = v) L ∧ Wk (K v) L
  | _, _, _ => False

theorem actOf_args {args : Array Value} {m : Nat} (ha : args.size ≤ m) : ({ tmps := args ++ Array.replicate (m - args.size) undef, defers := [] } : Act) = actOf m [] (argEnv args) := by
  simp only [actOf, Act.mk.injEq, and_true]
  apply Array.ext
  · simp; omega
  · intro i h1 h2
    simp only [Array.getElem_append, argEnv, Array.getElem_map, Array.getElem_range]
    split
    · rename_i hi; simp [hi]
    · rename_i hi; simp [Array.getElem?_eq_none (show args.size ≤ i by omega)]

theorem leaves_marks {fn : Func} {tmps : Array Value} {R : Ending → World → Prop} {F : Hp} (hR : ∀ w, Own σ w (L ++ F) → ∃ u, (results fn tmps).run P w = .ok u w ∧ R (.returned u) w) : ∀ (D : List Nat) (w : World), Own σ w ((markB D ++ L) ++ F) →
    LeavesInM Fence.wide 0 P fn tmps R (marks D) .returning w
  | [], w, ho => hR w ho
  | d :: D, w, ho => by
    refine ⟨by simp, .inl ?_⟩
    have hm := ho.mem d (.deferred (some [])) (by simp [markB])
    have hrep := ho.rep (b := d) (o := .deferred (some [])) (o' := .deferred none) (L' := (d, .deferred none) :: ((markB D ++ L) ++ F)) ⟨[], (markB D ++ L) ++ F, by simp [markB], by simp⟩ (w' := { w with heap := w.heap.setIfInBounds d (.deferred none) }) rfl rfl rfl rfl
    refine ⟨d, { w with heap := w.heap.setIfInBounds d (.deferred none) }, rfl, ?_, leaves_marks hR D _ (Own.sub (L := [(d, .deferred none)]) hrep)⟩
    simp [Instr.takeDeferred, getObj, setObj, Sem.run, hm, bind, Sem.bind]

theorem spec_of {f : FuncId} {fn : Func} {c : Code} {args : Array Value} {K : Value → Hp → Prop} {n : Nat} (hf : P.funcs[f]? = some fn) (hb : fn.body = some c) (hn : fn.ntmps = n) (ha : args.size ≤ n)
    (h : XF P σ ⟨n, none⟩ c (post P σ n fn K) (argEnv args) L) : Spec P σ f args K L := by
  intro w F ho
  subst hn
  refine callsIn_wide (n := 0) |>.1 (callsIn_of_wp_marks hf hb trivial ?_)
  rw [actOf_args ha]
  refine wpIn_mono (h [] w F ho) ?_
  rintro e a w' ⟨L', ⟨ρ, D, L0, rfl, rfl, hq⟩, ho'⟩
  have fin : (∃ v, xq P σ (results fn (actOf fn.ntmps [] ρ).tmps) (fun u => u = v) L0 ∧ Wk (K v) L0) → LeavesInM Fence.wide 0 P fn (actOf fn.ntmps [] ρ).tmps (fun e w' => ∃ v L', e = .returned v ∧ K v L' ∧ Own σ w' (L' ++ F)) (marks D) .returning w' := by
    rintro ⟨v, hr, L1, R, hp, hk⟩
    refine leaves_marks (fun w ho => ?_) D w' ho'
    obtain ⟨u, hu, rfl⟩ := xq_run _ hr ho
    exact ⟨u, hu, u, L1, rfl, hk, ho.wk hp⟩
  cases e <;> first | exact fin hq | exact hq.elim

section
variable {n : Nat}
def resOk (P : Program) (σ : Sig) (n : Nat) (ρ : Env) (L : Hp) (r : ResultVar) (v : Value) : Prop :=
  match r with
  | .tmp t => t < n ∧ ρ t = v
  | .cell a t => a < n ∧ ∃ ad, ρ a = .pointer (some ad) ∧ ((isAggT P t = some false ∧ Rd σ L ad v) ∨ (isAggT P t = some true ∧ ∃ m vs, szT P t = some m ∧ RdN σ L ad m vs ∧ v = .agg vs))

theorem xq_res {r : ResultVar} {v : Value} {Q : Value → Prop} (h : resOk P σ n ρ L r v) (hq : Q v) :
    xq P σ (match r with | .tmp t => pure ((actOf n [] ρ).tmps.getD t undef) | .cell a t => do loadVar t (← asAddr ((actOf n [] ρ).tmps.getD a undef))) Q L := by
  cases r with
  | tmp t =>
    obtain ⟨ht, hv⟩ := h
    have : (actOf n [] ρ).tmps.getD t undef = v := by simp [actOf, ht, hv]
    simp only [this]
    exact hq
  | cell a t =>
    obtain ⟨ht, ad, hv, h⟩ := h
    have : (actOf n [] ρ).tmps.getD a undef = .pointer (some ad) := by simp [actOf, ht, hv]
    simp only [this, asAddr, pure_bind]
    rcases h with ⟨h1, h2⟩ | ⟨h1, m, vs, h2, h3, rfl⟩
    · exact xq_loadVar_cell h1 h2 hq
    · exact xq_loadVar_agg h1 h2 h3 hq

theorem xq_map {α β : Type} {f : α → β} {s : Sem α} {Q : β → Prop} : xq P σ (f <$> s) Q L = xq P σ s (fun a => Q (f a)) L := by
  show xq P σ (s.bind fun a => pure (f a)) Q L = _
  exact xq_bind s _

theorem resAll {fn : Func} {rs : List ResultVar} {vs : List Value} {Q : Value → Prop} (hr : fn.results = rs.toArray) (hl : rs.length = vs.length)
    (h : ∀ (i : Nat) r v, rs[i]? = some r → vs[i]? = some v → resOk P σ n ρ L r v) (hq : Q (if h : vs.toArray.size = 1 then vs.toArray[0] else .tuple vs.toArray)) :
    xq P σ (results fn (actOf n [] ρ).tmps) Q L := by
  simp only [results, hr, List.mapM_toArray]
  rw [xq_bind, xq_map]
  have key : ∀ (rs : List ResultVar) (vs : List Value) (Q : List Value → Prop), rs.length = vs.length → (∀ (i : Nat) r v, rs[i]? = some r → vs[i]? = some v → resOk P σ n ρ L r v) → Q vs →
      xq P σ (rs.mapM fun r => match r with | .tmp t => pure ((actOf n [] ρ).tmps.getD t undef) | .cell a t => do loadVar t (← asAddr ((actOf n [] ρ).tmps.getD a undef))) Q L := by
    intro rs
    induction rs with
    | nil => intro vs Q hl _ hq; cases vs with | nil => exact hq | cons _ _ => cases hl
    | cons r rs ih =>
      intro vs Q hl h hq
      cases vs with
      | nil => cases hl
      | cons v vs =>
        simp only [List.mapM_cons]
        rw [xq_bind]
        refine xq_res (h 0 r v rfl rfl) ?_
        rw [xq_bind]
        exact ih vs _ (by simpa using hl) (fun i r v hr hv => h (i + 1) r v (by simpa using hr) (by simpa using hv)) hq
  exact key rs vs _ hl h hq

theorem res0 {fn : Func} {K : Value → Hp → Prop} (hr : fn.results = #[]) (hk : Wk (K (.tuple #[])) L) :
    ∃ v, xq P σ (results fn (actOf n [] ρ).tmps) (fun u => u = v) L ∧ Wk (K v) L :=
  ⟨_, resAll (rs := []) (vs := []) hr rfl (fun i r v h => by simp at h) rfl, hk⟩

theorem res1 {fn : Func} {r : ResultVar} {v : Value} {K : Value → Hp → Prop} (hr : fn.results = #[r]) (hv : resOk P σ n ρ L r v) (hk : Wk (K v) L) :
    ∃ v, xq P σ (results fn (actOf n [] ρ).tmps) (fun u => u = v) L ∧ Wk (K v) L :=
  ⟨_, resAll (rs := [r]) (vs := [v]) hr rfl (fun i r' v' h h' => by
    cases i with
    | zero => simp at h h'; subst h; subst h'; exact hv
    | succ i => simp at h) rfl, hk⟩

theorem resT {n : Nat} {ρ : Env} {t : Nat} {v : Value} (ht : t < n) (hv : ρ t = v) : resOk P σ n ρ L (.tmp t) v := ⟨ht, hv⟩
theorem resC {n : Nat} {ρ : Env} {a t m : Nat} {ad : Addr} {vs : Array Value} (ht : a < n) (hv : ρ a = .pointer (some ad)) (h1 : isAggT P t = some true) (h2 : szT P t = some m) (h3 : RdN σ L ad m vs) :
    resOk P σ n ρ L (.cell a t) (.agg vs) := ⟨ht, ad, hv, .inr ⟨h1, m, vs, h2, h3, rfl⟩⟩
theorem resC1 {n : Nat} {ρ : Env} {a t : Nat} {ad : Addr} {v : Value} (ht : a < n) (hv : ρ a = .pointer (some ad)) (h1 : isAggT P t = some false) (h3 : Rd σ L ad v) :
    resOk P σ n ρ L (.cell a t) v := ⟨ht, ad, hv, .inl ⟨h1, h3⟩⟩

def resList (P : Program) (σ : Sig) (n : Nat) (ρ : Env) (L : Hp) : List ResultVar → List Value → Prop
  | [], [] => True
  | r :: rs, v :: vs => resOk P σ n ρ L r v ∧ resList P σ n ρ L rs vs
  | _, _ => False

theorem resN {fn : Func} {rs : List ResultVar} {vs : List Value} {K : Value → Hp → Prop} (hr : fn.results = rs.toArray) (hlen : rs.length ≠ 1)
    (h : resList P σ n ρ L rs vs) (hk : Wk (K (.tuple vs.toArray)) L) :
    ∃ v, xq P σ (results fn (actOf n [] ρ).tmps) (fun u => u = v) L ∧ Wk (K v) L := by
  have hl : ∀ (rs : List ResultVar) (vs : List Value), resList P σ n ρ L rs vs → rs.length = vs.length ∧ ∀ (i : Nat) r v, rs[i]? = some r → vs[i]? = some v → resOk P σ n ρ L r v := by
    intro rs
    induction rs with
    | nil => intro vs h; cases vs <;> simp_all [resList]
    | cons r rs ih =>
      intro vs h
      cases vs with
      | nil => exact h.elim
      | cons v vs =>
        refine ⟨by simpa using (ih vs h.2).1, fun i r' v' h1 h2 => ?_⟩
        cases i with
        | zero => simp at h1 h2; subst h1; subst h2; exact h.1
        | succ i => exact (ih vs h.2).2 i r' v' (by simpa using h1) (by simpa using h2)
  obtain ⟨h1, h2⟩ := hl rs vs h
  refine ⟨_, resAll hr h1 h2 rfl, ?_⟩
  have : ¬ (vs.toArray.size = 1) := by simpa [← h1] using hlen
  rw [dif_neg this]
  exact hk
end
attribute [irreducible] Yl XL XD XF
end Go.X
