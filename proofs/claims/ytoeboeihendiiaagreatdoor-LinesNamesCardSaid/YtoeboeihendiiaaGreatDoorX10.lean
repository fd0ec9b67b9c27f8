import Derived.Test.YtoeboeihendiiaaGreatDoorX9
import Derived.RangeFuncRecord
set_option linter.all false
namespace Go.X
attribute [local semireducible] Yl XL XD XF xop
variable {P : Program} {σ : Sig} {ρ : Env} {L L' : Hp} {dst : Option Tmp} {ty : TypeId} {pos : String} {after : Array Edge} {guard : Option (Nat × Bool)}

theorem xop_yield {K : Value → Hp → Prop} {l : Nat} {x : Operand} {args : Array Operand} {tys : Array TypeId} {rec : Loop} (hx : ev ρ x = .func (.yield l) #[] #[]) (hl : At σ L l (.loop rec)) (hn : args.size = rec.params.size)
    (h : SpecR P σ l rec.fn ((rec.params.zip (args.map (ev ρ))).foldl (fun t (p, v) => t.setIfInBounds p v) rec.tmps) rec.assign rec.body K L) :
    xop P σ ⟨dst, .call ⟨.value x, args, tys⟩, ty, pos, after, guard⟩ ρ K L := by
  unfold xop
  simp only [execOp, resolve, hx, Deferred.ofValue, pure_bind, invoke, Instr.yield, Instr.getLoop]
  rw [xwp_bind, xwp_bind]
  refine ⟨_, hl, trivial, ?_⟩
  have e : (#[] ++ args.map (ev ρ) ++ #[] : Array Value) = args.map (ev ρ) := by simp
  simp only [Array.size_append, Array.size_map, List.size_toArray, List.length_nil, Nat.zero_add, Nat.add_zero]
  show xwp P σ (ite (args.size ≠ rec.params.size) _ _) (xnext P σ K) L
  rw [if_neg (by simp [hn])]
  have e2 : (#[] ++ args.map (ev ρ) : Array Value) = args.map (ev ρ) := by simp
  simp only [e2]
  exact h

/-- what is left behind a round -/
def roundF (l : Nat) (K : Value → Hp → Prop) : Exit → Env → Hp → Prop
  | .normal, _, L => ∃ rec L0, L.Perm ((l, .loop rec) :: L0) ∧ K (.bool true) ((l, .loop { rec with state := .ready, pending := none }) :: L0)
  | .ret, _, L => ∃ rec L0, L.Perm ((l, .loop rec) :: L0) ∧ K (.bool false) ((l, .loop { rec with state := .done, pending := some .ret }) :: L0)
  | .exit id, _, L => ∃ rec L0, L.Perm ((l, .loop rec) :: L0) ∧ K (.bool false) ((l, .loop { rec with state := .done, pending := some (.exit id) }) :: L0)
  | .goto t, _, L => ∃ rec L0, L.Perm ((l, .loop rec) :: L0) ∧ K (.bool false) ((l, .loop { rec with state := .done, pending := some (.goto t) }) :: L0)
  | _, _, _ => False

theorem Own.put {w : World} {l : Nat} {o o' : Obj} {L L0 F : Hp} {D : List Nat} (ho : Own σ w ((markB D ++ L) ++ F)) (hp : L.Perm ((l, o) :: L0)) :
    w.heap[l]? = some o ∧ Own σ (w.putObj l o') (((l, o') :: (markB D ++ L0)) ++ F) := by
  have h1 : Own σ w ((l, o) :: (markB D ++ L0) ++ F) := ho.perm (by
    refine List.Perm.append_right F ?_
    exact (hp.append_left _).trans List.perm_middle)
  exact ⟨h1.mem l o (by simp), h1.rep (b := l) (o := o) (o' := o') ⟨[], (markB D ++ L0) ++ F, by simp, by simp⟩ rfl rfl rfl rfl⟩

theorem markB_drop {w : World} {D : List Nat} {x : Nat × Obj} {L0 F : Hp} (h : Own σ w ((x :: (markB D ++ L0)) ++ F)) : Own σ w ((x :: L0) ++ F) :=
  h.wk (R := markB D) (by
    refine (List.perm_append_comm (l₁ := markB D) (l₂ := L0)).cons x |>.trans ?_
    simp)

theorem specR_of {n l : Nat} {f : FuncId} {assign body : Code} {K : Value → Hp → Prop}
    (h : XF P σ ⟨n, some l⟩ assign (fun e ρ' L' => e = .normal ∧ ∃ rec L0, L'.Perm ((l, .loop rec) :: L0) ∧ rec.state = .ready ∧
      XF P σ ⟨n, some l⟩ body (roundF l K) ρ' ((l, .loop { rec with state := .busy }) :: L0)) ρ L) : SpecR P σ l f (actOf n [] ρ).tmps assign body K L := by
  intro w F ho
  refine roundIn_of_wpIn (F := Fence.wide) trivial (wpIn_mono (h [] w F ho) ?_)
  rintro e a w1 ⟨L1, ⟨ρ1, D, L2, rfl, rfl, rfl, rec, L0, hp, hst, hb⟩, ho1⟩
  obtain ⟨hl, ho2⟩ := ho1.put (o' := .loop { rec with state := .busy }) hp
  refine ⟨_, run_beginRound hl hst, ?_⟩
  refine wpIn_mono (hb D _ F (ho2.perm ?_)) ?_
  · refine List.Perm.append_right F ?_
    exact List.perm_middle.symm
  · rintro e a w2 ⟨L3, ⟨ρ2, D', L4, rfl, rfl, hq⟩, ho3⟩
    have fin : ∀ (j : Option Code), (∃ rec L0, L4.Perm ((l, .loop rec) :: L0) ∧ K (.bool j.isNone) ((l, .loop { rec with state := if j.isNone then .ready else .done, pending := j }) :: L0)) →
        ∃ v w', (Instr.endRound l j).run P w2 = .ok v w' ∧ ∃ v' L', Ending.returned v = .returned v' ∧ K v' L' ∧ Own σ w' (L' ++ F) := by
      rintro j ⟨rec, L0, hp, hk⟩
      obtain ⟨hl, ho4⟩ := ho3.put (o' := .loop { rec with state := if j.isNone then .ready else .done, pending := j }) hp
      exact ⟨_, _, run_endRound j hl, _, _, rfl, hk, markB_drop ho4⟩
    cases e with
    | normal => exact fin none hq
    | ret => exact fin (some .ret) hq
    | exit id => exact fin (some (.exit id)) hq
    | goto t => exact fin (some (.goto t)) hq
    | panic c => exact hq.elim
    | outgrown => exact hq.elim

theorem run_body {f : FuncId} (hb : hasBody P f = true) (args : Array Value) (w : World) : (callFunc f args).run P w = .ok (.enter f args) w := by
  unfold hasBody at hb
  unfold callFunc
  cases hf : P.funcs[f]? with
  | none => simp [hf] at hb
  | some fn =>
    simp only [hf, Bool.and_eq_true, Bool.not_eq_true'] at hb
    rw [Sem.run_bind]
    show Sem.run P _ w = _
    simp only [hf, hb.2, Bool.false_eq_true, if_false]
    cases hbd : fn.body with
    | none => simp [hbd] at hb
    | some c => rfl

theorem XF.rangeFunc {n : Nat} {g : Operand} {ps : Array Tmp} {assign body : Code} {Q : Exit → Env → Hp → Prop} {gf : FuncId} {lb : Array Value} (hok : okOpd n g = true) (hg : ev ρ g = .func (.func gf) #[] lb) (hb : hasBody P gf = true)
    (h : ∀ fn D l, Spec P σ gf (#[.func (.yield l) #[] #[]] ++ lb) (fun _ L' => ∃ rec L0, L'.Perm ((l, .loop rec) :: L0) ∧ rec.state ≠ .busy ∧
        (match rec.pending with | none => Q .normal ρ L0 | some c => XF P σ ⟨n, none⟩ c Q ρ L0))
      ((l, .loop { state := .ready, pending := none, fn := fn, tmps := (actOf n [] ρ).tmps, params := ps, assign := assign, body := body, defers := D }) :: L)) :
    XF P σ ⟨n, none⟩ (.rangeFunc g ps assign body) Q ρ L := by
  intro D w F ho
  refine wpIn_rangeFunc (F := Fx none) ?_
  intro fn _
  have ho1 := ho.alloc (.deferred (some []))
  have ho2 := ho1.alloc (.loop { state := .ready, pending := none, fn := fn, tmps := (actOf n [] ρ).tmps, params := ps, assign := assign, body := body, defers := w.heap.size })
  have henter := run_enterLoop_outer (P := P) (w := w) fn (actOf n (marks D) ρ).tmps ps assign body
  have hsz : ({ w with heap := w.heap.push (.deferred (some [])) } : World).heap.size = w.heap.size + 1 := by simp
  refine ⟨w.heap.size + 1, [{ target := .collected w.heap.size, args := #[] }], (w.alloc (.deferred (some []))).alloc (.loop { state := .ready, pending := none, fn, tmps := (actOf n (marks D) ρ).tmps, params := ps, assign, body, defers := w.heap.size }), { target := .fn (.func gf) lb, args := #[.func (.yield (w.heap.size + 1)) #[] #[]] },
    (w.alloc (.deferred (some []))).alloc (.loop { state := .ready, pending := none, fn, tmps := (actOf n (marks D) ρ).tmps, params := ps, assign, body, defers := w.heap.size }), gf, #[.func (.yield (w.heap.size + 1)) #[] #[]] ++ lb,
    (w.alloc (.deferred (some []))).alloc (.loop { state := .ready, pending := none, fn, tmps := (actOf n (marks D) ρ).tmps, params := ps, assign, body, defers := w.heap.size }), henter, ?_, fun _ _ => trivial, ?_, (fun h => by cases h), ?_⟩
  · have hev : (actOf n (marks D) ρ).eval g = .func (.func gf) #[] lb := by rw [actOf_eval hok]; exact hg
    simp only [resolve, rangeCall, hev, Deferred.ofValue]
    simp [Sem.run_pure, Act.eval]
  · simp only [invoke]
    exact run_body hb _ _
  · refine callsIn_Fx (r := none) ?_
    have hsp := h fn w.heap.size (w.heap.size + 1)
    have ho3 : Own σ ((w.alloc (.deferred (some []))).alloc (.loop { state := .ready, pending := none, fn := fn, tmps := (actOf n (marks D) ρ).tmps, params := ps, assign := assign, body := body, defers := w.heap.size }))
        (((w.heap.size + 1, .loop { state := .ready, pending := none, fn := fn, tmps := (actOf n [] ρ).tmps, params := ps, assign := assign, body := body, defers := w.heap.size }) :: L) ++ (markB (w.heap.size :: D) ++ F)) := by
      have : Own σ ((w.alloc (.deferred (some []))).alloc (.loop { state := .ready, pending := none, fn := fn, tmps := (actOf n (marks D) ρ).tmps, params := ps, assign := assign, body := body, defers := w.heap.size }))
        ((w.heap.size + 1, .loop { state := .ready, pending := none, fn := fn, tmps := (actOf n [] ρ).tmps, params := ps, assign := assign, body := body, defers := w.heap.size }) :: (w.heap.size, .deferred (some [])) :: ((markB D ++ L) ++ F)) := by
        have := ho2
        rw [hsz] at this
        exact this
      refine this.perm (List.Perm.cons _ ?_)
      simp only [markB, List.map_cons, List.cons_append]
      refine (List.Perm.cons _ ?_).trans List.perm_middle.symm
      rw [List.append_assoc]
      exact List.perm_append_comm_assoc _ L F
    refine (hsp _ _ ho3).mono ?_
    rintro e w' ⟨v, L', rfl, ⟨rec, L0, hp, hbz, hq⟩, ho'⟩
    have ho4 : Own σ w' ((markB (w.heap.size :: D) ++ L') ++ F) := ho'.mid'
    obtain ⟨hl, ho5⟩ := ho4.put (o' := .loop { rec with state := .exhausted }) hp
    refine ⟨_, _, run_endLoop hl hbz, ?_⟩
    have ho6 : Own σ (w'.putObj (w.heap.size + 1) (.loop { rec with state := .exhausted })) ((markB (w.heap.size :: D) ++ L0) ++ F) := Own.sub (L := [(w.heap.size + 1, .loop { rec with state := .exhausted })]) ho5
    generalize hwx : w'.putObj (w.heap.size + 1) (.loop { rec with state := .exhausted }) = wx at *
    cases hpd : rec.pending with
    | none =>
      simp only [hpd] at hq
      exact ⟨_, ⟨ρ, w.heap.size :: D, L0, rfl, rfl, hq⟩, ho6⟩
    | some c =>
      simp only [hpd] at hq
      exact hq (w.heap.size :: D) _ F ho6
end Go.X
