import Derived.Test.YtoeboeihendiiaaGreatDoorX1
import Derived.Orders
set_option linter.all false
namespace Go.X
set_option linter.all false
variable {P : Program} {σ : Sig} {r : Option Nat}

/-! ### reading only -/
def xq (P : Program) (σ : Sig) {α : Type} : Sem α → (α → Prop) → Hp → Prop
  | .pure a, Q, _ => Q a
  | .load _ a k, Q, L => ∃ v, Rd σ L a v ∧ xq P σ (k v) Q L
  | .shape r k, Q, L => ∃ o, At σ L r o ∧ xq P σ (k (shapeOf o)) Q L
  | .frozen a k, Q, L => ∃ o, At σ L a.block o ∧ xq P σ (k (frozenOf a.off o)) Q L
  | .getObj r k, Q, L => ∃ o, At σ L r o ∧ notCells o ∧ xq P σ (k o) Q L
  | .program k, Q, L => xq P σ (k P) Q L
  | .mark _ k, Q, L => xq P σ k Q L
  | _, _, _ => False

theorem xq_xwp {α : Type} (s : Sem α) {Q : α → Prop} {Q' : α → Hp → Prop} {L : Hp} (hq : ∀ a, Q a → Q' a L) (h : xq P σ s Q L) : xwp P σ s Q' L := by
  induction s with
  | pure a => exact hq _ h
  | load m a k ih => exact let ⟨v, hr, h⟩ := h; ⟨v, hr, ih _ h⟩
  | shape r k ih => exact let ⟨v, hr, h⟩ := h; ⟨v, hr, ih _ h⟩
  | frozen a k ih => exact let ⟨v, hr, h⟩ := h; ⟨v, hr, ih _ h⟩
  | getObj r k ih => exact let ⟨v, hr, hn, h⟩ := h; ⟨v, hr, hn, ih _ h⟩
  | program k ih => exact ih _ h
  | mark m k ih => exact ih h
  | _ => exact h.elim

theorem xq_run {α : Type} (s : Sem α) {Q : α → Prop} {L F : Hp} {w : World} (h : xq P σ s Q L) (ho : Own σ w (L ++ F)) : ∃ a, s.run P w = .ok a w ∧ Q a := by
  induction s with
  | pure a => exact ⟨a, rfl, h⟩
  | load m a k ih =>
    obtain ⟨v, hr, h⟩ := h
    have hr' : Rd σ (L ++ F) a v := let ⟨h1, c, e, fz, ha, hc⟩ := hr; ⟨h1, c, e, fz, ha.mono, hc⟩
    simp only [Sem.run, ho.rd hr']
    exact ih v h
  | shape r k ih => obtain ⟨o, ha, h⟩ := h; simp only [Sem.run, ho.shape ha.mono]; exact ih _ h
  | frozen a k ih => obtain ⟨o, ha, h⟩ := h; simp only [Sem.run, ho.frozen ha.mono]; exact ih _ h
  | getObj r k ih =>
    obtain ⟨o, ha, hn, h⟩ := h
    have := ho.at ha.mono
    simp only [Sem.run, this]
    cases o <;> first | exact hn.elim | exact ih _ h
  | program k ih => exact ih _ h
  | mark m k ih => exact ih h
  | _ => exact h.elim

theorem xq_mono {α : Type} (s : Sem α) {Q Q' : α → Prop} {L : Hp} (hq : ∀ a, Q a → Q' a) (h : xq P σ s Q L) : xq P σ s Q' L := by
  induction s with
  | pure a => exact hq _ h
  | load m a k ih => exact let ⟨v, hr, h⟩ := h; ⟨v, hr, ih _ h⟩
  | shape r k ih => exact let ⟨v, hr, h⟩ := h; ⟨v, hr, ih _ h⟩
  | frozen a k ih => exact let ⟨v, hr, h⟩ := h; ⟨v, hr, ih _ h⟩
  | getObj r k ih => exact let ⟨v, hr, hn, h⟩ := h; ⟨v, hr, hn, ih _ h⟩
  | program k ih => exact ih _ h
  | mark m k ih => exact ih h
  | _ => exact h.elim

theorem xq_bind {α β : Type} (s : Sem α) (f : α → Sem β) {Q : β → Prop} {L : Hp} :
    xq P σ (s >>= f) Q L = xq P σ s (fun a => xq P σ (f a) Q L) L := by
  show xq P σ (s.bind f) Q L = xq P σ s (fun a => xq P σ (f a) Q L) L
  induction s with
  | pure a => rfl
  | load m a k ih => simp only [Sem.bind, xq, ih]
  | store m a v k ih => simp only [Sem.bind, xq]
  | new o k ih => simp only [Sem.bind, xq]
  | shape r k ih => simp only [Sem.bind, xq, ih]
  | freeze a n k ih => simp only [Sem.bind, xq]
  | frozen a k ih => simp only [Sem.bind, xq, ih]
  | getObj r k ih => simp only [Sem.bind, xq, ih]
  | setObj r o k ih => simp only [Sem.bind, xq]
  | choose q k ih => simp only [Sem.bind, xq]
  | sys c k ih => simp only [Sem.bind, xq]
  | program k ih => simp only [Sem.bind, xq, ih]
  | mark m k ih => simp only [Sem.bind, xq, ih]
  | halt h => simp only [Sem.bind, xq]

/-! ### any order -/
def isV (v : Value) : Next → Prop
  | .value u => u = v
  | .skip => v = undef
  | _ => False

/-- operation o, in state a, wherever G holds, yields v and changes nothing -/
def YieldsX (P : Program) (σ : Sig) (ops : Array Oper) (o : Oper) (v : Value) (a : Act) (G : Hp → Prop) : Prop :=
  (Region.wanted o (yielded ops a.tmps) = true ∧ ∀ L, G L → xq P σ (execOp a.eval o) (isV v) L) ∨ (Region.wanted o (yielded ops a.tmps) = false ∧ v = undef)

def XOpI (P : Program) (σ : Sig) (ops : Array Oper) (i : Nat) (K : Act → Hp → Prop) (a : Act) (L : Hp) : Prop :=
  match ops[i]? with
  | none => K a L
  | some o => if Region.wanted o (yielded ops a.tmps) then XOp P σ o a K L else K (a.put o.dst undef) L

theorem XNext_mono {o : Oper} {a : Act} {K K' : Act → Hp → Prop} (h : ∀ a L, K a L → K' a L) (n : Next) (L : Hp) (hn : XNext P σ o a K n L) : XNext P σ o a K' n L := by
  cases n <;> simp only [XNext] at hn ⊢ <;> first | exact h _ _ hn | exact Spec.mono hn (fun _ _ hk => h _ _ hk) | exact SpecR.mono hn (fun _ _ hk => h _ _ hk) | exact hn

theorem XOp.mono {o : Oper} {a : Act} {K K' : Act → Hp → Prop} {L : Hp} (h : ∀ a L, K a L → K' a L) (hx : XOp P σ o a K L) : XOp P σ o a K' L :=
  ⟨hx.1, xwp_mono _ (fun n L hn => XNext_mono (fun a L hk => Wk.mono (fun L => h a L) hk) n L hn) hx.2⟩

theorem xq_false {α : Type} (s : Sem α) {L : Hp} (h : xq P σ s (fun _ => False) L) : False := by
  induction s with
  | pure a => exact h
  | load m a k ih => exact let ⟨_, _, h⟩ := h; ih _ h
  | shape r k ih => exact let ⟨_, _, h⟩ := h; ih _ h
  | frozen a k ih => exact let ⟨_, _, h⟩ := h; ih _ h
  | getObj r k ih => exact let ⟨_, _, _, h⟩ := h; ih _ h
  | program k ih => exact ih _ h
  | mark m k ih => exact ih h
  | _ => exact h.elim

theorem no_defer {o : Oper} {ρ : Operand → Value} {v : Value} {L : Hp} (h : xq P σ (execOp ρ o) (isV v) L) : ∀ c, o.op ≠ .defer c := by
  intro c hc
  unfold execOp at h
  rw [hc] at h
  simp only at h
  rw [xq_bind] at h
  exact xq_false _ (xq_mono _ (fun d hd => hd) h)

theorem XOpI.mono {ops : Array Oper} {i : Nat} {a : Act} {K K' : Act → Hp → Prop} {L : Hp} (h : ∀ a L, K a L → K' a L) (hx : XOpI P σ ops i K a L) : XOpI P σ ops i K' a L := by
  unfold XOpI at *
  split
  · rename_i ho; simp only [ho] at hx; exact h _ _ hx
  · rename_i o ho
    simp only [ho] at hx
    split
    · rename_i hw; simp only [hw, if_true] at hx; exact hx.mono h
    · rename_i hw; simp only [hw] at hx; exact h _ _ hx

theorem YieldsX.xop {ops : Array Oper} {i : Nat} {o : Oper} {v : Value} {a : Act} {G : Hp → Prop} (hi : ops[i]? = some o) (hy : YieldsX P σ ops o v a G)
    {K : Act → Hp → Prop} {L : Hp} (hG : G L) (h : K (a.put o.dst v) L) : XOpI P σ ops i K a L := by
  unfold XOpI
  simp only [hi]
  rcases hy with ⟨hw, hv⟩ | ⟨hw, rfl⟩
  · simp only [hw, if_true]
    refine ⟨no_defer (hv L hG), xq_xwp _ (fun n hn => ?_) (hv L hG)⟩
    cases n <;> simp only [isV] at hn <;> subst hn <;> exact Wk.intro h
  · simp only [hw, Bool.false_eq_true, if_false]; exact h

theorem YieldsX.of_same {ops : Array Oper} {o : Oper} {v : Value} {a a' : Act} {G : Hp → Prop} (hy : YieldsX P σ ops o v a G) (he : execOp a'.eval o = execOp a.eval o)
    (hw : Region.wanted o (yielded ops a'.tmps) = Region.wanted o (yielded ops a.tmps)) : YieldsX P σ ops o v a' G := by
  unfold YieldsX at *
  rw [he, hw]
  exact hy

theorem XOpI_put {ops : Array Oper} {j : Nat} {oi oj : Oper} {v : Value} {G : Hp → Prop} (hj : ops[j]? = some oj) (hap : oi.apart ops oj = true)
    (hsi : ∀ cs b, oi.op ≠ .select cs b) (hsj : ∀ cs b, oj.op ≠ .select cs b) {K : Act → Hp → Prop} {a : Act} {L : Hp}
    (hy : YieldsX P σ ops oi v a G) (h : XOpI P σ ops j K (a.put oi.dst v) L) :
    XOpI P σ ops j (fun a' L' => YieldsX P σ ops oi v a' G ∧ K (a'.put oi.dst v) L') a L := by
  obtain ⟨h1, h2, h3⟩ := Oper.apart_spec hap
  have keep : ∀ u, YieldsX P σ ops oi v (a.put oj.dst u) G := fun u =>
    hy.of_same (execOp_put oi hsi a oj.dst u h3) (wanted_put oi a oj.dst u h3)
  unfold XOpI at *
  simp only [hj] at *
  rw [wanted_put oj a oi.dst v h1] at h
  split
  · rename_i hw
    simp only [hw, if_true] at h
    unfold XOp at *
    rw [execOp_put oj hsj a oi.dst v h1] at h
    refine ⟨h.1, xwp_mono _ (fun n L hn => ?_) h.2⟩
    cases n <;> simp only [XNext] at hn ⊢
    · exact hn.mono fun L' hk => ⟨keep _, by rw [← Act.put_comm a v _ h2]; exact hk⟩
    · exact hn.mono fun L' hk => ⟨keep _, by rw [← Act.put_comm a v undef h2]; exact hk⟩
    · exact Spec.mono hn fun u L' hw => hw.mono fun L'' hk => ⟨keep _, by rw [← Act.put_comm a v u h2]; exact hk⟩
    · exact SpecR.mono hn fun u L' hw => hw.mono fun L'' hk => ⟨keep _, by rw [← Act.put_comm a v u h2]; exact hk⟩
  · rename_i hw
    simp only [hw] at h
    exact ⟨keep _, by rw [← Act.put_comm a v undef h2]; exact h⟩

/-- whatever order is picked from here on; lo: the loud ones that have been carried out; G is asked behind each -/
def XAny (P : Program) (σ : Sig) (ops : Array Oper) (loud : Nat → Bool) (Q : Act → Hp → Prop) (G : List Nat → Hp → Prop) : Nat → Array Bool → List Nat → Act → Hp → Prop
  | 0, listed, _, a, L => Region.ready .any ops listed = [] ∧ Q a L
  | fuel + 1, listed, lo, a, L =>
    (Region.ready .any ops listed = [] → Q a L) ∧
    ∀ i ∈ Region.ready .any ops listed, XOpI P σ ops i (fun a' L' => G (if loud i then i :: lo else lo) L' ∧
      XAny P σ ops loud Q G fuel (listed.setIfInBounds i true) (if loud i then i :: lo else lo) a' L') a L

variable {ops : Array Oper} {loud : Nat → Bool} {Q : Act → Hp → Prop}

theorem XAny.mono {G G' : List Nat → Hp → Prop} (hg : ∀ lo L, G lo L → G' lo L) : ∀ (fuel : Nat) (listed : Array Bool) (lo : List Nat) (a : Act) (L : Hp),
    XAny P σ ops loud Q G fuel listed lo a L → XAny P σ ops loud Q G' fuel listed lo a L
  | 0, _, _, _, _, h => h
  | fuel + 1, _, _, _, _, h => ⟨h.1, fun i hi => (h.2 i hi).mono fun _ _ ⟨h1, h2⟩ => ⟨hg _ _ h1, XAny.mono hg fuel _ _ _ _ h2⟩⟩

theorem XOpI.sound {i : Nat} {a : Act} {L F : Hp} {w : World} {K : Act → Hp → Prop} {Q' : Exit → Act → World → Prop} (h : XOpI P σ ops i K a L) (ho : Own σ w (L ++ F)) :
    wpOpIn (Fx r) 0 P ops Q' i (lift σ F K) a w := by
  unfold XOpI at h
  unfold wpOpIn
  split
  · rename_i hi; simp only [hi] at h; exact ⟨L, h, ho⟩
  · rename_i o hi
    simp only [hi] at h
    split
    · rename_i hw; simp only [hw, if_true] at h; exact XOp.sound h ho
    · rename_i hw; simp only [hw] at h; exact ⟨fun _ _ => trivial, L, h, ho⟩

theorem XAny.sound {F : Hp} {Q' : Exit → Act → World → Prop} {G : List Nat → Hp → Prop} (hQ : ∀ a w, lift σ F Q a w → Q' .normal a w) :
    ∀ (fuel : Nat) (listed : Array Bool) (lo : List Nat) (a : Act) (L : Hp) (w : World), XAny P σ ops loud Q G fuel listed lo a L → Own σ w (L ++ F) →
      wpAnyIn (Fx r) 0 P .any ops Q' fuel listed a w
  | 0, _, _, _, L, _, h, ho => ⟨h.1, hQ _ _ ⟨L, h.2, ho⟩⟩
  | fuel + 1, _, _, _, L, _, h, ho => ⟨fun h0 => hQ _ _ ⟨L, h.1 h0, ho⟩, fun i hi =>
      wpOpIn_mono (fun _ _ ⟨L', h', ho'⟩ => XAny.sound hQ fuel _ _ _ L' _ h'.2 ho') (XOpI.sound (h.2 i hi) ho)⟩

inductive Reach (ops : Array Oper) : Nat → Nat → Prop
  | edge {j : Nat} {o : Oper} {e : Edge} (hj : ops[j]? = some o) (he : e ∈ o.after) (hb : Region.binds .any e = true) : Reach ops j e.on
  | step {j i : Nat} {o : Oper} {e : Edge} (hj : ops[j]? = some o) (he : e ∈ o.after) (hb : Region.binds .any e = true) (h : Reach ops e.on i) : Reach ops j i

def DC (ops : Array Oper) (listed : Array Bool) : Prop :=
  ∀ x o, listed.getD x false = true → ops[x]? = some o → ∀ e ∈ o.after, Region.binds .any e = true → listed.getD e.on false = true

theorem reach_listed {listed : Array Bool} (hd : DC ops listed) {j i : Nat} (h : Reach ops j i) :
    (∀ o, ops[j]? = some o → ∀ e ∈ o.after, Region.binds .any e = true → listed.getD e.on false = true) → listed.getD i false = true := by
  induction h with
  | edge hj he hb => exact fun hp => hp _ hj _ he hb
  | step hj he hb h ih => exact fun hp => ih fun o ho => hd _ o (hp _ hj _ he hb) ho

def mask (acc : List Nat) (es : List Edge) : Nat := es.foldl (fun s e => if Region.binds .any e then s ||| 2 ^ e.on ||| acc.getD e.on 0 else s) 0
def befs (acc : List Nat) : List Oper → List Nat
  | [] => acc
  | o :: os => befs (acc ++ [mask acc o.after.toList]) os

theorem mask_spec (acc : List Nat) (i : Nat) : ∀ (es : List Edge) (s : Nat), (es.foldl (fun s e => if Region.binds .any e then s ||| 2 ^ e.on ||| acc.getD e.on 0 else s) s).testBit i = true →
    s.testBit i = true ∨ ∃ e ∈ es, Region.binds .any e = true ∧ (e.on = i ∨ (acc.getD e.on 0).testBit i = true)
  | [], s, h => .inl h
  | e :: es, s, h => by
    simp only [List.foldl_cons] at h
    rcases mask_spec acc i es _ h with h | ⟨e', he', h⟩
    · split at h
      · rename_i hb
        simp only [Nat.testBit_or, Bool.or_eq_true] at h
        rcases h with (h | h) | h
        · exact .inl h
        · refine .inr ⟨e, by simp, hb, .inl ?_⟩
          rw [Nat.testBit_two_pow] at h
          simpa using h
        · exact .inr ⟨e, by simp, hb, .inr h⟩
      · exact .inl h
    · exact .inr ⟨e', by simp [he'], h⟩

theorem befs_spec : ∀ (os : List Oper) (acc : List Nat) (pre : List Oper), ops.toList = pre ++ os → acc.length = pre.length →
    (∀ j i, (acc.getD j 0).testBit i = true → Reach ops j i) → ∀ j i, ((befs acc os).getD j 0).testBit i = true → Reach ops j i
  | [], acc, pre, _, _, h => h
  | o :: os, acc, pre, hops, hl, h => by
    refine befs_spec os _ (pre ++ [o]) (by simp [hops]) (by simp [hl]) ?_
    intro j i hb
    by_cases hj : j < acc.length
    · rw [List.getD_eq_getElem?_getD, List.getElem?_append_left hj, ← List.getD_eq_getElem?_getD] at hb
      exact h j i hb
    · by_cases hj2 : j = acc.length
      · subst hj2
        have ho : ops[acc.length]? = some o := by
          rw [← Array.getElem?_toList, hops, hl]
          simp
        simp at hb
        rcases mask_spec acc i _ _ hb with h0 | ⟨e, he, hbe, h0⟩
        · simp at h0
        · have he' : e ∈ o.after := by simpa using he
          rcases h0 with rfl | h0
          · exact .edge ho he' hbe
          · exact .step ho he' hbe (h _ _ h0)
      · have : ¬ j < (acc ++ [mask acc o.after.toList]).length := by simp; omega
        rw [List.getD_eq_getElem?_getD, List.getElem?_eq_none (by omega)] at hb
        simp at hb

def pendB (ops : Array Oper) (i : Nat) (lo : List Nat) : Bool := lo.all fun j => !((befs [] ops.toList).getD j 0).testBit i

theorem DC.set {listed : Array Bool} {i : Nat} (hd : DC ops listed) (hi : i ∈ Region.ready .any ops listed) : DC ops (listed.setIfInBounds i true) := by
  obtain ⟨h0, o, ho, hall⟩ := mem_ready.1 hi
  intro x ox hx hox e he hb
  by_cases hxi : x = i
  · subst hxi
    rw [ho] at hox; cases hox
    exact getD_set_true (hall e he hb)
  · rw [getD_set_ne false (Ne.symm hxi)] at hx
    exact getD_set_true (hd x ox hx hox e he hb)

def LO (listed : Array Bool) (lo : List Nat) : Prop := ∀ x ∈ lo, listed.getD x false = true

theorem pend_ok {listed : Array Bool} {lo : List Nat} {i : Nat} (hd : DC ops listed) (hl : LO listed lo) (hi : listed.getD i false = false) : pendB ops i lo = true := by
  unfold pendB
  rw [List.all_eq_true]
  intro j hj
  cases h : ((befs [] ops.toList).getD j 0).testBit i with
  | false => rfl
  | true =>
    exfalso
    have hr := befs_spec (ops := ops) ops.toList [] [] rfl rfl (fun j i h => by simp at h) j i h
    have := reach_listed hd hr (fun o ho => hd j o (hl j hj) ho)
    rw [hi] at this; cases this

/-- a quiet operation may be taken first -/
theorem XAny.take {i : Nat} {oi : Oper} {v : Value} {G : List Nat → Hp → Prop} {Gi : Hp → Prop} (hi : ops[i]? = some oi)
    (hsel : ∀ (j : Nat) (o : Oper) cs b, ops[j]? = some o → o.op ≠ .select cs b) (hq : loud i = false) :
    ∀ (fuel : Nat) (listed : Array Bool) (lo : List Nat) (a : Act) (L : Hp), DC ops listed → LO listed lo →
      (∀ j oj, ops[j]? = some oj → j ≠ i → listed.getD j true = false → (∀ e ∈ oj.after, Region.binds .any e = true → e.on ≠ i) → oi.apart ops oj = true) →
      i ∈ Region.ready .any ops listed → YieldsX P σ ops oi v a Gi → Gi L → G lo L →
      XAny P σ ops loud Q (fun lo L => G lo L ∧ (pendB ops i lo = true → Gi L)) fuel (listed.setIfInBounds i true) lo (a.put oi.dst v) L →
      XAny P σ ops loud Q G (fuel + 1) listed lo a L := by
  intro fuel
  induction fuel with
  | zero =>
    intro listed lo a L _ _ _ hr hy hGi hG H
    refine ⟨fun h => (by rw [h] at hr; cases hr), fun j hj => ?_⟩
    by_cases hji : j = i
    · subst hji
      rw [hq]
      exact hy.xop hi hGi ⟨hG, H⟩
    · have := ready_mono hj hji
      rw [H.1] at this
      cases this
  | succ fuel ih =>
    intro listed lo a L hdc hlo hfree hr hy hGi hG H
    refine ⟨fun h => (by rw [h] at hr; cases hr), fun j hj => ?_⟩
    by_cases hji : j = i
    · subst hji
      rw [hq]
      exact hy.xop hi hGi ⟨hG, XAny.mono (fun _ _ h => h.1) _ _ _ _ _ H⟩
    · have h1 := H.2 j (ready_mono hj hji)
      obtain ⟨hjun, oj, hoj, hall⟩ := mem_ready.1 hj
      have hun : listed.getD i true = false := (mem_ready.1 hr).1
      have hun' : listed.getD i false = false := by
        rcases Nat.lt_or_ge i listed.size with h' | h'
        · simp [h'] at hun ⊢; exact hun
        · simp [Array.getElem?_eq_none h']
      have hnot : ∀ e ∈ oj.after, Region.binds .any e = true → e.on ≠ i := fun e he hb heq => by
        have h1 := hall e he hb
        rw [heq, hun'] at h1; cases h1
      have h2 := XOpI_put hoj (hfree j oj hoj hji hjun hnot) (fun cs b => hsel i oi cs b hi) (fun cs b => hsel j oj cs b hoj) hy h1
      have hdc' := hdc.set hj
      have hlo' : LO (listed.setIfInBounds j true) (if loud j then j :: lo else lo) := by
        intro x hx
        have hjl : (listed.setIfInBounds j true).getD j false = true := by
          rcases Nat.lt_or_ge j listed.size with h' | h'
          · simp [h']
          · exfalso; simp [Array.getElem?_eq_none h'] at hjun
        split at hx
        · rcases List.mem_cons.1 hx with rfl | hx
          · exact hjl
          · exact getD_set_true (hlo x hx)
        · exact getD_set_true (hlo x hx)
      have hun2 : (listed.setIfInBounds j true).getD i false = false := by rw [getD_set_ne false hji]; exact hun'
      have hp := pend_ok hdc' hlo' hun2
      refine h2.mono fun a' L' ⟨hy', hG', H'⟩ => ⟨hG'.1, ?_⟩
      refine ih _ _ a' L' hdc' hlo' ?_ (ready_mono hr (Ne.symm hji)) hy' (hG'.2 hp) hG'.1 ?_
      · intro k ok hk hki hunk hno
        refine hfree k ok hk hki ?_ hno
        by_cases hjk : j = k
        · subst hjk; exact hjun
        · rw [getD_set_ne true hjk] at hunk; exact hunk
      · rw [Array.setIfInBounds_comm _ _ hji]; exact H'

/-! ### the plan of a region that draws: quiet operations as early as may be (u, q); loud ones one by one (l); what only makes a new block is told when it may be made (rd), and made as late as may be (al) -/
inductive Plan where
  | done
  | u (i : Nat) (p : Plan)
  | q (i : Nat) (p : Plan)
  | l (i : Nat) (p : Plan)
  | rd (i : Nat) (p : Plan)
  | al (i : Nat) (p : Plan)

abbrev Pend := List (Nat × (Hp → Prop))
abbrev Al := List (Nat × Obj × (Nat → Value))

def recheck (ops : Array Oper) (lo : List Nat) (L : Hp) : Pend → Prop
  | [] => True
  | (i, g) :: t => (if pendB ops i lo then g L else True) ∧ recheck ops lo L t

/-- operation o, in state a, makes the one block ob, and tells its value -/
def Makes (P : Program) (σ : Sig) (o : Oper) (a : Act) (ob : Obj) (v : Nat → Value) : Prop :=
  o.guard = none ∧ (∀ c, o.op ≠ .defer c) ∧ ∀ (K : Next → Hp → Prop) (L : Hp), (∀ b, K (.value (v b)) ((b, ob) :: L)) → xwp P σ (execOp a.eval o) K L

def alOf (i : Nat) : Al → Option (Obj × (Nat → Value))
  | [] => none
  | (j, p) :: t => if i = j then some p else alOf i t

def XPlan (P : Program) (σ : Sig) (ops : Array Oper) (Q : Act → Hp → Prop) : Plan → Al → List Nat → Pend → Act → Hp → Prop
  | .done, _, _, _, a, L => Q a L
  | .q i p, ac, lo, pd, a, L => ∃ v o, ops[i]? = some o ∧ ((Region.wanted o (yielded ops a.tmps) = true ∧ xq P σ (execOp a.eval o) (isV v) L) ∨ (Region.wanted o (yielded ops a.tmps) = false ∧ v = undef)) ∧
      XPlan P σ ops Q p ac lo ((i, fun L => Region.wanted o (yielded ops a.tmps) = true → xq P σ (execOp a.eval o) (isV v) L) :: pd) (a.put o.dst v) L
  | .u i p, ac, lo, pd, a, L => ∃ v o, ops[i]? = some o ∧ ((Region.wanted o (yielded ops a.tmps) = true ∧ ∀ L, xq P σ (execOp a.eval o) (isV v) L) ∨ (Region.wanted o (yielded ops a.tmps) = false ∧ v = undef)) ∧
      XPlan P σ ops Q p ac lo pd (a.put o.dst v) L
  | .l i p, ac, lo, pd, a, L => XOpI P σ ops i (fun a' L' => recheck ops (i :: lo) L' pd ∧ XPlan P σ ops Q p ac (i :: lo) pd a' L') a L
  | .rd i p, ac, lo, pd, a, L => ∃ o ob v, ops[i]? = some o ∧ Makes P σ o a ob v ∧ XPlan P σ ops Q p ((i, ob, v) :: ac) lo pd a L
  | .al i p, ac, lo, pd, a, L => ∃ o ob v, ops[i]? = some o ∧ alOf i ac = some (ob, v) ∧ ∀ b, recheck ops (i :: lo) ((b, ob) :: L) pd ∧ XPlan P σ ops Q p ac (i :: lo) pd (a.put o.dst (v b)) ((b, ob) :: L)

def freeB (ops : Array Oper) (listed : Array Bool) (i : Nat) : Bool :=
  match ops[i]? with
  | none => false
  | some oi => (List.range ops.size).all fun j => j == i || listed.getD j true || ((ops[j]?).map fun oj => oj.after.any (fun e => Region.binds .any e && e.on == i) || oi.apart ops oj).getD true

theorem freeB_spec {listed : Array Bool} {i : Nat} {oi : Oper} (hi : ops[i]? = some oi) (h : freeB ops listed i = true) :
    ∀ j oj, ops[j]? = some oj → j ≠ i → listed.getD j true = false → (∀ e ∈ oj.after, Region.binds .any e = true → e.on ≠ i) → oi.apart ops oj = true := by
  intro j oj hj hne hl hno
  unfold freeB at h
  simp only [hi, List.all_eq_true, List.mem_range] at h
  have := h j (Array.getElem?_eq_some_iff.1 hj).1
  simp only [hj, Option.map_some, Option.getD_some, hl, Bool.or_false, Bool.or_eq_true, beq_iff_eq] at this
  rcases this with h1 | h1 | h1
  · exact absurd h1 hne
  · rw [Array.any_eq_true] at h1
    obtain ⟨k, hk, h1⟩ := h1
    simp only [Bool.and_eq_true, beq_iff_eq] at h1
    exact absurd h1.2 (hno _ (Array.getElem_mem hk) h1.1)
  · exact h1

def noSel (ops : Array Oper) : Bool := ops.all fun o => match o.op with | .select .. => false | _ => true

theorem noSel_spec (h : noSel ops = true) (j : Nat) (o : Oper) (cs : Array SelectCase) (b : Bool) (hj : ops[j]? = some o) : o.op ≠ .select cs b := by
  intro he
  unfold noSel at h
  rw [Array.all_eq_true] at h
  obtain ⟨hlt, hg⟩ := Array.getElem?_eq_some_iff.1 hj
  have := h j hlt
  rw [hg, he] at this
  cases this

def Plan.louds : Plan → List Nat
  | .done => []
  | .u _ p => p.louds
  | .q _ p => p.louds
  | .l i p => i :: p.louds
  | .rd _ p => p.louds
  | .al i p => i :: p.louds

/-- without the making of x -/
def Plan.drop (x : Nat) : Plan → Plan
  | .done => .done
  | .u i p => .u i (p.drop x)
  | .q i p => .q i (p.drop x)
  | .l i p => .l i (p.drop x)
  | .rd i p => .rd i (p.drop x)
  | .al i p => if i = x then p else .al i (p.drop x)

def apartB (ops : Array Oper) (x i : Nat) : Bool :=
  match ops[x]?, ops[i]? with
  | some ox, some oi => ox.apart ops oi
  | _, _ => false

/-- x is made later on, and nothing before that has to do with it -/
def earlyB (ops : Array Oper) (x : Nat) : Plan → Bool
  | .done => false
  | .u i p => apartB ops x i && earlyB ops x p
  | .q i p => apartB ops x i && earlyB ops x p
  | .l i p => apartB ops x i && earlyB ops x p
  | .rd i p => i != x && apartB ops x i && earlyB ops x p
  | .al i p => if i = x then true else apartB ops x i && earlyB ops x p

def planOk (ops : Array Oper) (loud : Nat → Bool) : Nat → Nat → List Nat → Array Bool → Plan → Bool
  | 0, _, _, _, _ => false
  | _ + 1, n, _, listed, .done => n == 0 && (Region.ready .any ops listed).isEmpty
  | _ + 1, 0, _, _, _ => false
  | f + 1, n + 1, dc, listed, .q i p => (Region.ready .any ops listed).contains i && !loud i && freeB ops listed i && dc.all (fun x => apartB ops x i) && planOk ops loud f n dc (listed.setIfInBounds i true) p
  | f + 1, n + 1, dc, listed, .u i p => (Region.ready .any ops listed).contains i && !loud i && freeB ops listed i && dc.all (fun x => apartB ops x i) && planOk ops loud f n dc (listed.setIfInBounds i true) p
  | f + 1, n + 1, dc, listed, .rd i p => loud i && !dc.contains i && planOk ops loud f (n + 1) (i :: dc) listed p
  | f + 1, n + 1, dc, listed, .l i p => (Region.ready .any ops listed).contains i && loud i && dc.all (fun x => apartB ops x i) && planOk ops loud f n dc (listed.setIfInBounds i true) p &&
      (Region.ready .any ops listed).all fun x => x == i || (dc.contains x && loud x && (dc.filter (· != x)).all (fun y => apartB ops y x) && earlyB ops x (.l i p) && planOk ops loud f n (dc.filter (· != x)) (listed.setIfInBounds x true) (.l i (p.drop x)))
  | f + 1, n + 1, dc, listed, .al i p => (Region.ready .any ops listed).contains i && loud i && dc.contains i && (dc.filter (· != i)).all (fun x => apartB ops x i) && planOk ops loud f n (dc.filter (· != i)) (listed.setIfInBounds i true) p &&
      (Region.ready .any ops listed).all fun x => x == i || (dc.contains x && loud x && (dc.filter (· != x)).all (fun y => apartB ops y x) && earlyB ops x (.al i p) && planOk ops loud f n (dc.filter (· != x)) (listed.setIfInBounds x true) (.al i (p.drop x)))

/-! #### what is kept beside -/
theorem xq_mem {α : Type} (s : Sem α) {Q : α → Prop} {L L' : Hp} (hs : ∀ p ∈ L, p ∈ L') (h : xq P σ s Q L) : xq P σ s Q L' := by
  have hat : ∀ b o, At σ L b o → At σ L' b o := fun b o h => h.imp id (hs _)
  induction s with
  | pure a => exact h
  | load m a k ih => exact let ⟨v, ⟨h1, c, e, fz, ha, hc⟩, h⟩ := h; ⟨v, ⟨h1, c, e, fz, hat _ _ ha, hc⟩, ih _ h⟩
  | shape r k ih => exact let ⟨v, hr, h⟩ := h; ⟨v, hat _ _ hr, ih _ h⟩
  | frozen a k ih => exact let ⟨v, hr, h⟩ := h; ⟨v, hat _ _ hr, ih _ h⟩
  | getObj r k ih => exact let ⟨v, hr, hn, h⟩ := h; ⟨v, hat _ _ hr, hn, ih _ h⟩
  | program k ih => exact ih _ h
  | mark m k ih => exact ih h
  | _ => exact h.elim

theorem Rep.frame {L L1 X : Hp} {b : Nat} {o o' : Obj} {L' : Hp} (hp : L1.Perm (X ++ L)) (h : Rep L b o o' L') : ∃ L1', Rep L1 b o o' L1' ∧ L1'.Perm (X ++ L') := by
  obtain ⟨A, B, rfl, rfl⟩ := h
  have hm : (b, o) ∈ L1 := hp.mem_iff.2 (by simp)
  obtain ⟨A1, B1, rfl⟩ := List.append_of_mem hm
  refine ⟨A1 ++ (b, o') :: B1, ⟨A1, B1, rfl, rfl⟩, ?_⟩
  have h1 : (A1 ++ B1).Perm (X ++ (A ++ B)) := by
    have h2 : ((b, o) :: (A1 ++ B1)).Perm ((b, o) :: (X ++ (A ++ B))) :=
      (List.perm_middle.symm.trans hp).trans (by rw [← List.append_assoc, ← List.append_assoc]; exact List.perm_middle)
    exact h2.cons_inv
  refine List.perm_middle.trans ((h1.cons (b, o')).trans ?_)
  rw [← List.append_assoc, ← List.append_assoc]
  exact List.perm_middle.symm

theorem Spec.frame {f : FuncId} {args : Array Value} {K : Value → Hp → Prop} {L L1 X : Hp} (hp : L1.Perm (X ++ L)) (h : Spec P σ f args K L) :
    Spec P σ f args (fun v L' => ∃ L0, L'.Perm (X ++ L0) ∧ K v L0) L1 :=
  h.use X (hp.trans List.perm_append_comm) fun v A' hk => ⟨A', List.perm_append_comm, hk⟩
theorem SpecR.frame {l : Nat} {f : FuncId} {tmps : Array Value} {assign body : Code} {K : Value → Hp → Prop} {L L1 X : Hp} (hp : L1.Perm (X ++ L)) (h : SpecR P σ l f tmps assign body K L) :
    SpecR P σ l f tmps assign body (fun v L' => ∃ L0, L'.Perm (X ++ L0) ∧ K v L0) L1 :=
  h.use X (hp.trans List.perm_append_comm) fun v A' hk => ⟨A', List.perm_append_comm, hk⟩

theorem xwp_frame {α : Type} (X : Hp) (s : Sem α) : ∀ {Q : α → Hp → Prop} {L L1 : Hp}, L1.Perm (X ++ L) → xwp P σ s Q L → xwp P σ s (fun a L' => ∃ L0, L'.Perm (X ++ L0) ∧ Q a L0) L1 := by
  have hat : ∀ {L L1 : Hp} {b : Nat} {o : Obj}, L1.Perm (X ++ L) → At σ L b o → At σ L1 b o := fun hp h => h.imp id fun h => hp.mem_iff.2 (List.mem_append_right _ h)
  induction s with
  | pure a => intro Q L L1 hp h; exact ⟨L, hp, h⟩
  | load m a k ih => intro Q L L1 hp ⟨v, ⟨h1, c, e, fz, ha, hc⟩, h⟩; exact ⟨v, ⟨h1, c, e, fz, hat hp ha, hc⟩, ih _ hp h⟩
  | store m a v k ih =>
    intro Q L L1 hp ⟨hv, L', ⟨h1, c, e, fz, h2, h3, hr⟩, h⟩
    obtain ⟨L1', hr', hp'⟩ := Rep.frame hp hr
    exact ⟨hv, L1', ⟨h1, c, e, fz, h2, h3, hr'⟩, ih hp' h⟩
  | new o k ih =>
    intro Q L L1 hp h b
    exact ih b ((hp.cons (b, o)).trans List.perm_middle.symm) (h b)
  | shape r k ih => intro Q L L1 hp ⟨v, hr, h⟩; exact ⟨v, hat hp hr, ih _ hp h⟩
  | freeze a n k ih =>
    intro Q L L1 hp ⟨hn, c, e, fz, L', hr, h⟩
    obtain ⟨L1', hr', hp'⟩ := Rep.frame hp hr
    exact ⟨hn, c, e, fz, L1', hr', ih hp' h⟩
  | frozen a k ih => intro Q L L1 hp ⟨v, hr, h⟩; exact ⟨v, hat hp hr, ih _ hp h⟩
  | getObj r k ih => intro Q L L1 hp ⟨v, hr, hn, h⟩; exact ⟨v, hat hp hr, hn, ih _ hp h⟩
  | setObj r o k ih =>
    intro Q L L1 hp ⟨o', L', hr, hn, h⟩
    obtain ⟨L1', hr', hp'⟩ := Rep.frame hp hr
    exact ⟨o', L1', hr', hn, ih hp' h⟩
  | choose q k ih =>
    intro Q L L1 hp h
    simp only [xwp] at h ⊢
    split
    · rename_i hf; rw [if_pos hf] at h; exact ih _ hp h
    · rename_i hf; rw [if_neg hf] at h; exact fun t => ih _ hp (h t)
  | sys c k ih => intro Q L L1 hp h; exact h
  | program k ih => intro Q L L1 hp h; exact ih _ hp h
  | mark m k ih => intro Q L L1 hp h; exact ih hp h
  | halt h => intro Q L L1 hp h; exact h

theorem Wk.frame {K : Hp → Prop} {K' : Hp → Prop} {X L L1 : Hp} (hp : L1.Perm (X ++ L)) (hk : ∀ L0 L0', L0'.Perm (X ++ L0) → K L0 → K' L0') (h : Wk K L) : Wk K' L1 := by
  obtain ⟨L', R, hp', h⟩ := h
  refine ⟨X ++ L', R, ?_, hk L' _ (List.Perm.refl _) h⟩
  rw [List.append_assoc]
  exact hp.trans (hp'.append_left X)

/-- an operation, with something beside it, in a state that it can't tell from the other one -/
theorem XOpI.frame {i : Nat} {X : Hp} {K K' : Act → Hp → Prop} {a a' : Act} {L L1 : Hp} (f : Act → Act)
    (ho : ∀ o, ops[i]? = some o → execOp a'.eval o = execOp a.eval o ∧ Region.wanted o (yielded ops a'.tmps) = Region.wanted o (yielded ops a.tmps) ∧ ∀ v, a'.put o.dst v = f (a.put o.dst v))
    (hi : (ops[i]?).isSome) (hp : L1.Perm (X ++ L)) (hk : ∀ b L0 L0', L0'.Perm (X ++ L0) → K b L0 → K' (f b) L0') (h : XOpI P σ ops i K a L) : XOpI P σ ops i K' a' L1 := by
  unfold XOpI at *
  cases hoi : ops[i]? with
  | none => rw [hoi] at hi; cases hi
  | some o =>
    obtain ⟨h1, h2, h3⟩ := ho o hoi
    simp only [hoi] at h
    simp only [h2]
    split
    · rename_i hw
      simp only [hw, if_true] at h
      refine ⟨h.1, ?_⟩
      rw [h1]
      refine xwp_mono _ (fun n L' hn => ?_) (xwp_frame X _ hp h.2)
      obtain ⟨L0, hp0, hn⟩ := hn
      cases n <;> simp only [XNext] at hn ⊢
      · rw [h3]; exact hn.frame hp0 (hk _)
      · rw [h3]; exact hn.frame hp0 (hk _)
      · exact (Spec.frame hp0 hn).mono fun v L2 ⟨L3, hp3, hk3⟩ => by rw [h3]; exact hk3.frame hp3 (hk _)
      · exact (SpecR.frame hp0 hn).mono fun v L2 ⟨L3, hp3, hk3⟩ => by rw [h3]; exact hk3.frame hp3 (hk _)
    · rename_i hw
      simp only [hw] at h
      rw [h3]
      exact hk _ _ _ hp h

def PdM (pd : Pend) : Prop := ∀ i g, (i, g) ∈ pd → ∀ L L' : Hp, (∀ p ∈ L, p ∈ L') → g L → g L'

theorem pendB_mono {i : Nat} {lo lo' : List Nat} (h : ∀ x ∈ lo', x ∈ lo) (hp : pendB ops i lo = true) : pendB ops i lo' = true := by
  unfold pendB at *
  rw [List.all_eq_true] at *
  exact fun x hx => hp x (h x hx)

theorem recheck_mono {lo lo' : List Nat} {L L' : Hp} (hl : ∀ x ∈ lo', x ∈ lo) (hs : ∀ p ∈ L, p ∈ L') : ∀ (pd : Pend), PdM pd → recheck ops lo' L pd → recheck ops lo L' pd
  | [], _, _ => trivial
  | (i, g) :: pd, hm, h => by
    refine ⟨?_, recheck_mono hl hs pd (fun j g hj => hm j g (List.mem_cons_of_mem _ hj)) h.2⟩
    split
    · rename_i hp
      have h1 := h.1
      rw [if_pos (pendB_mono hl hp)] at h1
      exact hm i g (by simp) L L' hs h1
    · trivial

theorem PdM.q {pd : Pend} (h : PdM pd) {i : Nat} {G : Prop} {s : Sem Next} {v : Value} : PdM ((i, fun L => G → xq P σ s (isV v) L) :: pd) := by
  intro j g hj L L' hs hg
  rcases List.mem_cons.1 hj with hj | hj
  · cases hj
    exact fun hG => xq_mem _ hs (hg hG)
  · exact h j g hj L L' hs hg

theorem mem_of_perm {X L L' : Hp} (h : L'.Perm (X ++ L)) : ∀ p ∈ L, p ∈ L' := fun p hp => h.mem_iff.2 (List.mem_append_right _ hp)

theorem sub_cons {α : Type} {i : α} {lo lo' : List α} (hl : ∀ x ∈ lo, x ∈ lo') : ∀ x ∈ i :: lo, x ∈ i :: lo' := by
  intro x hx
  rcases List.mem_cons.1 hx with rfl | hx
  · simp
  · exact List.mem_cons_of_mem _ (hl x hx)

def QP (Q : Act → Hp → Prop) : Prop := ∀ a L L', L'.Perm L → Q a L → Q a L'

/-- the plan over the same memory, told in another order; more loud ones behind -/
theorem XPlan.perm (hQ : QP Q) : ∀ (p : Plan) (ac : Al) (lo lo' : List Nat) (pd : Pend) (a : Act) (L L' : Hp), PdM pd → (∀ x ∈ lo, x ∈ lo') → L'.Perm L → XPlan P σ ops Q p ac lo pd a L → XPlan P σ ops Q p ac lo' pd a L'
  | .done, _, _, _, _, _, _, _, _, _, hp, h => hQ _ _ _ hp h
  | .u i p, ac, lo, lo', pd, a, L, L', hm, hl, hp, ⟨v, o, hi, hy, h⟩ => ⟨v, o, hi, hy, XPlan.perm hQ p ac lo lo' pd _ L L' hm hl hp h⟩
  | .q i p, ac, lo, lo', pd, a, L, L', hm, hl, hp, ⟨v, o, hi, hy, h⟩ =>
    ⟨v, o, hi, hy.imp (fun ⟨h1, h2⟩ => ⟨h1, xq_mem _ (fun x hx => hp.mem_iff.2 hx) h2⟩) id, XPlan.perm hQ p ac lo lo' _ _ L L' hm.q hl hp h⟩
  | .l i p, ac, lo, lo', pd, a, L, L', hm, hl, hp, h => by
    cases hi : ops[i]? with
    | none =>
      unfold XPlan XOpI at *
      simp only [hi] at *
      exact ⟨recheck_mono (sub_cons hl) (fun x hx => hp.mem_iff.2 hx) pd hm h.1, XPlan.perm hQ p ac _ _ pd a L L' hm (sub_cons hl) hp h.2⟩
    | some o =>
      refine XOpI.frame (X := []) id (fun o ho => ⟨rfl, rfl, fun v => rfl⟩) (by simp [hi]) (by simpa using hp) ?_ h
      rintro b L0 L0' hp0 ⟨h1, h2⟩
      have hp0 : L0'.Perm L0 := by simpa using hp0
      have hl' : ∀ x ∈ i :: lo, x ∈ i :: lo' := sub_cons hl
      exact ⟨recheck_mono hl' (fun x hx => hp0.mem_iff.2 hx) pd hm h1, XPlan.perm hQ p ac _ _ pd b L0 L0' hm hl' hp0 h2⟩
  | .rd i p, ac, lo, lo', pd, a, L, L', hm, hl, hp, ⟨o, ob, v, h1, h2, h⟩ => ⟨o, ob, v, h1, h2, XPlan.perm hQ p _ lo lo' pd a L L' hm hl hp h⟩
  | .al i p, ac, lo, lo', pd, a, L, L', hm, hl, hp, ⟨o, ob, v, h1, h2, h⟩ => by
    have hl' : ∀ x ∈ i :: lo, x ∈ i :: lo' := sub_cons hl
    exact ⟨o, ob, v, h1, h2, fun b => ⟨recheck_mono hl' (fun x hx => (hp.cons (b, ob)).mem_iff.2 hx) pd hm (h b).1, XPlan.perm hQ p ac _ _ pd _ _ _ hm hl' (hp.cons (b, ob)) (h b).2⟩⟩

theorem apartB_spec {x i : Nat} {ox oi : Oper} (hx : ops[x]? = some ox) (hi : ops[i]? = some oi) (h : apartB ops x i = true) : ox.apart ops oi = true := by
  unfold apartB at h
  rw [hx, hi] at h
  exact h
theorem apartB_some {x i : Nat} (h : apartB ops x i = true) : ∃ ox oi, ops[x]? = some ox ∧ ops[i]? = some oi := by
  unfold apartB at h
  split at h
  · exact ⟨_, _, by assumption, by assumption⟩
  · cases h

/-- what is made later may be made now -/
theorem XPlan.early (hQ : QP Q) (hs : ∀ (j : Nat) (o : Oper) cs b, ops[j]? = some o → o.op ≠ .select cs b) {x : Nat} {ox : Oper} (hx : ops[x]? = some ox) {ob : Obj} {v : Nat → Value} : ∀ (p : Plan) (ac : Al) (lo : List Nat) (pd : Pend) (a : Act) (L : Hp), PdM pd → alOf x ac = some (ob, v) → earlyB ops x p = true →
    XPlan P σ ops Q p ac lo pd a L → ∀ b, XPlan P σ ops Q (p.drop x) ac (x :: lo) pd (a.put ox.dst (v b)) ((b, ob) :: L)
  | .done, _, _, _, _, _, _, _, he, _ => by simp [earlyB] at he
  | .u i p, ac, lo, pd, a, L, hm, hal, he, ⟨u, o, hi, hy, h⟩ => fun b => by
    simp only [earlyB, Bool.and_eq_true] at he
    obtain ⟨g1, g2, g3⟩ := Oper.apart_spec (apartB_spec hx hi he.1)
    refine ⟨u, o, hi, ?_, ?_⟩
    · rw [execOp_put o (fun cs b => hs i o cs b hi) a ox.dst (v b) g1, wanted_put o a ox.dst (v b) g1]
      exact hy
    · rw [Act.put_comm a (v b) u g2]
      exact XPlan.early hQ hs hx p ac lo pd _ L hm hal he.2 h b
  | .q i p, ac, lo, pd, a, L, hm, hal, he, ⟨u, o, hi, hy, h⟩ => fun b => by
    simp only [earlyB, Bool.and_eq_true] at he
    obtain ⟨g1, g2, g3⟩ := Oper.apart_spec (apartB_spec hx hi he.1)
    refine ⟨u, o, hi, ?_, ?_⟩
    · rw [execOp_put o (fun cs b => hs i o cs b hi) a ox.dst (v b) g1, wanted_put o a ox.dst (v b) g1]
      exact hy.imp (fun ⟨h1, h2⟩ => ⟨h1, xq_mem _ (fun x hx => List.mem_cons_of_mem _ hx) h2⟩) id
    · rw [execOp_put o (fun cs b => hs i o cs b hi) a ox.dst (v b) g1, wanted_put o a ox.dst (v b) g1, Act.put_comm a (v b) u g2]
      exact XPlan.early hQ hs hx p ac lo _ _ L hm.q hal he.2 h b
  | .l i p, ac, lo, pd, a, L, hm, hal, he, h => fun b => by
    simp only [earlyB, Bool.and_eq_true] at he
    obtain ⟨_, oi, _, hi⟩ := apartB_some he.1
    obtain ⟨g1, g2, g3⟩ := Oper.apart_spec (apartB_spec hx hi he.1)
    refine XOpI.frame (X := [(b, ob)]) (fun a => a.put ox.dst (v b)) (fun o ho => ?_) (by simp [hi]) (List.Perm.refl _) ?_ h
    · rw [hi] at ho
      simp only [Option.some.injEq] at ho
      subst ho
      exact ⟨execOp_put oi (fun cs b => hs i oi cs b hi) a ox.dst (v b) g1, wanted_put oi a ox.dst (v b) g1, fun u => Act.put_comm a (v b) u g2⟩
    · rintro a1 L0 L0' hp0 ⟨h1, h2⟩
      refine ⟨recheck_mono (by intro y hy; simp only [List.mem_cons] at hy ⊢; rcases hy with h | h <;> simp [h]) (mem_of_perm hp0) pd hm h1, ?_⟩
      refine XPlan.perm hQ _ ac _ _ pd _ _ _ hm ?_ hp0 (XPlan.early hQ hs hx p ac (i :: lo) pd a1 L0 hm hal he.2 h2 b)
      intro y hy
      simp only [List.mem_cons] at hy ⊢
      rcases hy with h | h | h
      · exact .inr (.inl h)
      · exact .inl h
      · exact .inr (.inr h)
  | .rd i p, ac, lo, pd, a, L, hm, hal, he, ⟨o, ob', v', hi, hmk, h⟩ => fun b => by
    simp only [earlyB, Bool.and_eq_true, bne_iff_ne, ne_eq] at he
    obtain ⟨g1, g2, g3⟩ := Oper.apart_spec (apartB_spec hx hi he.1.2)
    refine ⟨o, ob', v', hi, ⟨hmk.1, hmk.2.1, ?_⟩, ?_⟩
    · rw [execOp_put o (fun cs b => hs i o cs b hi) a ox.dst (v b) g1]
      exact hmk.2.2
    · refine XPlan.early hQ hs hx p _ lo pd a L hm ?_ he.2 h b
      unfold alOf
      rw [if_neg (fun h => he.1.1 h.symm)]
      exact hal
  | .al i p, ac, lo, pd, a, L, hm, hal, he, ⟨o, ob', v', hi, hal', h⟩ => fun b => by
    unfold earlyB at he
    split at he
    · rename_i hix
      subst hix
      rw [hal] at hal'
      simp only [Option.some.injEq, Prod.mk.injEq] at hal'
      obtain ⟨rfl, rfl⟩ := hal'
      rw [hx] at hi
      simp only [Option.some.injEq] at hi
      subst hi
      simp only [Plan.drop, if_true]
      exact (h b).2
    · rename_i hix
      simp only [Bool.and_eq_true] at he
      obtain ⟨g1, g2, g3⟩ := Oper.apart_spec (apartB_spec hx hi he.1)
      simp only [Plan.drop]
      rw [if_neg hix]
      refine ⟨o, ob', v', hi, hal', fun b' => ?_⟩
      have h' := h b'
      refine ⟨recheck_mono (by intro y hy; simp only [List.mem_cons] at hy ⊢; rcases hy with h | h <;> simp [h]) (by intro y hy; simp only [List.mem_cons] at hy ⊢; rcases hy with h | h <;> simp [h]) pd hm h'.1, ?_⟩
      rw [Act.put_comm a (v b) (v' b') g2]
      refine XPlan.perm hQ _ ac _ _ pd _ _ _ hm ?_ (List.Perm.swap _ _ _) (XPlan.early hQ hs hx p ac (i :: lo) pd _ _ hm hal he.2 h'.2 b)
      intro y hy
      simp only [List.mem_cons] at hy ⊢
      rcases hy with h | h | h
      · exact .inr (.inl h)
      · exact .inl h
      · exact .inr (.inr h)

theorem XOpI.put_out {i : Nat} {o : Oper} (hi : ops[i]? = some o) {K : Act → Hp → Prop} {a : Act} {L : Hp} (h : XOpI P σ ops i K a L) :
    XOpI P σ ops i (fun a' L' => (∃ u, a' = a.put o.dst u) ∧ K a' L') a L := by
  unfold XOpI at *
  simp only [hi] at *
  split
  · rename_i hw
    simp only [hw, if_true] at h
    refine ⟨h.1, xwp_mono _ (fun n L' hn => ?_) h.2⟩
    cases n <;> simp only [XNext] at hn ⊢
    · exact hn.mono fun L' hk => ⟨⟨_, rfl⟩, hk⟩
    · exact hn.mono fun L' hk => ⟨⟨_, rfl⟩, hk⟩
    · exact Spec.mono hn fun u L' hw => hw.mono fun L'' hk => ⟨⟨_, rfl⟩, hk⟩
    · exact SpecR.mono hn fun u L' hw => hw.mono fun L'' hk => ⟨⟨_, rfl⟩, hk⟩
  · rename_i hw
    simp only [hw] at h
    exact ⟨⟨_, rfl⟩, h⟩

def AcOk (P : Program) (σ : Sig) (ops : Array Oper) (dc : List Nat) (ac : Al) (a : Act) : Prop :=
  ∀ x ∈ dc, ∃ o ob v, ops[x]? = some o ∧ alOf x ac = some (ob, v) ∧ Makes P σ o a ob v

theorem AcOk.put (hs : ∀ (j : Nat) (o : Oper) cs b, ops[j]? = some o → o.op ≠ .select cs b) {dc : List Nat} {ac : Al} {a : Act} {i : Nat} {oi : Oper} {u : Value} (h : AcOk P σ ops dc ac a) (hi : ops[i]? = some oi)
    (hap : dc.all (fun x => apartB ops x i) = true) : AcOk P σ ops dc ac (a.put oi.dst u) := by
  intro x hx
  obtain ⟨o, ob, v, h1, h2, h3, h4, h5⟩ := h x hx
  rw [List.all_eq_true] at hap
  obtain ⟨g1, g2, g3⟩ := Oper.apart_spec (apartB_spec h1 hi (hap x hx))
  refine ⟨o, ob, v, h1, h2, h3, h4, ?_⟩
  rw [execOp_put o (fun cs b => hs x o cs b h1) a oi.dst u g3]
  exact h5

theorem AcOk.filter {dc : List Nat} {ac : Al} {a : Act} (q : Nat → Bool) (h : AcOk P σ ops dc ac a) : AcOk P σ ops (dc.filter q) ac a :=
  fun x hx => h x (List.mem_filter.1 hx).1

theorem Makes.xop {x : Nat} {o : Oper} {ob : Obj} {v : Nat → Value} {a : Act} {L : Hp} {K : Act → Hp → Prop} (hx : ops[x]? = some o) (hm : Makes P σ o a ob v) (h : ∀ b, K (a.put o.dst (v b)) ((b, ob) :: L)) : XOpI P σ ops x K a L := by
  unfold XOpI
  simp only [hx]
  rw [if_pos (by simp [Region.wanted, hm.1])]
  exact ⟨hm.2.1, hm.2.2 _ _ fun b => Wk.intro (h b)⟩

theorem XPlan.sound (hQ : QP Q) (hs : noSel ops = true) : ∀ (f n : Nat) (dc : List Nat) (listed : Array Bool) (p : Plan) (ac : Al) (lo : List Nat) (pd : Pend) (a : Act) (L : Hp),
    planOk ops loud f n dc listed p = true → DC ops listed → LO listed lo → recheck ops lo L pd → PdM pd → AcOk P σ ops dc ac a → XPlan P σ ops Q p ac lo pd a L →
    XAny P σ ops loud Q (fun lo L => recheck ops lo L pd) n listed lo a L := by
  have hsel := fun (j : Nat) (o : Oper) cs b hj => noSel_spec hs j o cs b hj
  have loSet : ∀ {listed : Array Bool} {lo : List Nat} {i : Nat}, LO listed lo → i ∈ Region.ready .any ops listed → LO (listed.setIfInBounds i true) (i :: lo) := by
    intro listed lo i hlo hi x hx
    rcases List.mem_cons.1 hx with rfl | hx
    · have := (mem_ready.1 hi).1
      rcases Nat.lt_or_ge x listed.size with h' | h'
      · simp [h']
      · exfalso; simp [Array.getElem?_eq_none h'] at this
    · exact getD_set_true (hlo x hx)
  have sub1 : ∀ (i : Nat) (lo : List Nat), ∀ x ∈ lo, x ∈ i :: lo := fun i lo x hx => List.mem_cons_of_mem _ hx
  intro f
  induction f with
  | zero => intro n dc listed p ac lo pd a L hp; simp [planOk] at hp
  | succ f ih =>
    intro n dc listed p ac lo pd a L hp hdc hlo hr hpd hac h
    -- one that is made early
    have early : ∀ (p : Plan) (n : Nat) (x : Nat), x ∈ Region.ready .any ops listed → dc.contains x = true → loud x = true → (dc.filter (· != x)).all (fun y => apartB ops y x) = true → earlyB ops x p = true →
        planOk ops loud f n (dc.filter (· != x)) (listed.setIfInBounds x true) (p.drop x) = true → XPlan P σ ops Q p ac lo pd a L →
        XOpI P σ ops x (fun a' L' => recheck ops (if loud x then x :: lo else lo) L' pd ∧ XAny P σ ops loud Q (fun lo L => recheck ops lo L pd) n (listed.setIfInBounds x true) (if loud x then x :: lo else lo) a' L') a L := by
      intro p n x hx hxd hxl hxa hxe hxp h
      obtain ⟨o, ob, v, h1, h2, h3⟩ := hac x (by simpa using hxd)
      rw [hxl]
      simp only [if_true]
      refine h3.xop h1 fun b => ?_
      have hre := recheck_mono (ops := ops) (L' := (b, ob) :: L) (sub1 x lo) (fun y hy => List.mem_cons_of_mem _ hy) pd hpd hr
      exact ⟨hre, ih n _ _ _ ac _ pd _ _ hxp (hdc.set hx) (loSet hlo hx) hre hpd ((hac.filter _).put hsel h1 hxa) (XPlan.early hQ hsel h1 p ac lo pd a L hpd h2 hxe h b)⟩
    cases p with
    | done =>
      cases n with
      | zero => simp [planOk] at hp; exact ⟨hp, h⟩
      | succ n => simp [planOk] at hp
    | u i p =>
      cases n with
      | zero => simp [planOk] at hp
      | succ n =>
        simp only [planOk, Bool.and_eq_true, Bool.not_eq_true', List.contains_iff_mem] at hp
        obtain ⟨⟨⟨⟨hrd, hq⟩, hf⟩, hap⟩, hp⟩ := hp
        obtain ⟨v, o, hi, hy, h⟩ := h
        have hlo' : LO (listed.setIfInBounds i true) lo := fun x hx => getD_set_true (hlo x hx)
        refine XAny.take (v := v) (Gi := fun _ => True) hi hsel hq n listed lo a L hdc hlo (freeB_spec hi hf) hrd ?_ trivial hr ?_
        · rcases hy with hy | hy
          · exact .inl ⟨hy.1, fun L _ => hy.2 L⟩
          · exact .inr hy
        · exact XAny.mono (fun lo L h1 => ⟨h1, fun _ => trivial⟩) _ _ _ _ _ (ih n dc _ p ac lo pd _ L hp (hdc.set hrd) hlo' hr hpd (hac.put hsel hi hap) h)
    | q i p =>
      cases n with
      | zero => simp [planOk] at hp
      | succ n =>
        simp only [planOk, Bool.and_eq_true, Bool.not_eq_true', List.contains_iff_mem] at hp
        obtain ⟨⟨⟨⟨hrd, hq⟩, hf⟩, hap⟩, hp⟩ := hp
        obtain ⟨v, o, hi, hy, h⟩ := h
        have hlo' : LO (listed.setIfInBounds i true) lo := fun x hx => getD_set_true (hlo x hx)
        have hG : (fun L => Region.wanted o (yielded ops a.tmps) = true → xq P σ (execOp a.eval o) (isV v) L) L := by
          intro hw
          rcases hy with hy | hy
          · exact hy.2
          · rw [hw] at hy; cases hy.1
        refine XAny.take (v := v) (Gi := fun L => Region.wanted o (yielded ops a.tmps) = true → xq P σ (execOp a.eval o) (isV v) L) hi hsel hq n listed lo a L hdc hlo (freeB_spec hi hf) hrd ?_ hG hr ?_
        · rcases hy with hy | hy
          · exact .inl ⟨hy.1, fun L hL => hL hy.1⟩
          · exact .inr hy
        · refine XAny.mono ?_ _ _ _ _ _ (ih n dc _ p ac lo _ _ L hp (hdc.set hrd) hlo' ?_ hpd.q (hac.put hsel hi hap) h)
          · rintro lo L ⟨h1, h2⟩
            exact ⟨h2, fun hp => by rw [if_pos hp] at h1; exact h1⟩
          · exact ⟨by split <;> first | exact hG | trivial, hr⟩
    | rd i p =>
      cases n with
      | zero => simp [planOk] at hp
      | succ n =>
        simp only [planOk, Bool.and_eq_true, Bool.not_eq_true'] at hp
        obtain ⟨⟨hl, hnd⟩, hp⟩ := hp
        obtain ⟨o, ob, v, h1, h2, h⟩ := h
        refine ih (n + 1) (i :: dc) listed p _ lo pd a L hp hdc hlo hr hpd ?_ h
        intro x hx
        by_cases hxi : x = i
        · subst hxi
          exact ⟨o, ob, v, h1, by simp [alOf], h2⟩
        · have hx' : x ∈ dc := by
            rcases List.mem_cons.1 hx with h | h
            · exact absurd h hxi
            · exact h
          obtain ⟨o', ob', v', g1, g2, g3⟩ := hac x hx'
          exact ⟨o', ob', v', g1, by simp [alOf, hxi, g2], g3⟩
    | l i p =>
      cases n with
      | zero => simp [planOk] at hp
      | succ n =>
        simp only [planOk, Bool.and_eq_true, List.contains_iff_mem] at hp
        obtain ⟨⟨⟨⟨hrd, hl⟩, hap⟩, hp⟩, hall⟩ := hp
        refine ⟨fun h0 => (by rw [h0] at hrd; cases hrd), fun x hx => ?_⟩
        rw [List.all_eq_true] at hall
        by_cases hxi : x = i
        · subst hxi
          rw [hl]
          simp only [if_true]
          obtain ⟨_, o, ho, _⟩ := mem_ready.1 hx
          exact XOpI.mono (fun a' L' ⟨⟨u, hu⟩, h1, h2⟩ => ⟨h1, ih n dc _ p ac _ pd a' L' hp (hdc.set hx) (loSet hlo hx) h1 hpd (by rw [hu]; exact hac.put hsel ho hap) h2⟩) (XOpI.put_out ho h)
        · have hx2 := hall x hx
          simp only [Bool.or_eq_true, beq_iff_eq, hxi, false_or, Bool.and_eq_true] at hx2
          obtain ⟨⟨⟨⟨g1, g2⟩, g3⟩, g4⟩, g5⟩ := hx2
          exact early (.l i p) n x hx g1 g2 g3 g4 g5 h
    | al i p =>
      cases n with
      | zero => simp [planOk] at hp
      | succ n =>
        simp only [planOk, Bool.and_eq_true, List.contains_iff_mem] at hp
        obtain ⟨⟨⟨⟨⟨hrd, hl⟩, hid⟩, hap⟩, hp⟩, hall⟩ := hp
        refine ⟨fun h0 => (by rw [h0] at hrd; cases hrd), fun x hx => ?_⟩
        rw [List.all_eq_true] at hall
        by_cases hxi : x = i
        · subst hxi
          rw [hl]
          simp only [if_true]
          obtain ⟨o, ob, v, h1, h2, h3⟩ := hac x hid
          obtain ⟨o', ob', v', h1', h2', h'⟩ := h
          rw [h1] at h1'
          rw [h2] at h2'
          simp only [Option.some.injEq, Prod.mk.injEq] at h1' h2'
          obtain ⟨rfl, rfl⟩ := h2'
          subst h1'
          refine h3.xop h1 fun b => ⟨(h' b).1, ih n _ _ p ac _ pd _ _ hp (hdc.set hx) (loSet hlo hx) (h' b).1 hpd ((hac.filter _).put hsel h1 hap) (h' b).2⟩
        · have hx2 := hall x hx
          simp only [Bool.or_eq_true, beq_iff_eq, hxi, false_or, Bool.and_eq_true] at hx2
          obtain ⟨⟨⟨⟨g1, g2⟩, g3⟩, g4⟩, g5⟩ := hx2
          refine early (.al i p) n x hx g1 g2 g3 g4 ?_ h
          simp only [Plan.drop]
          rw [if_neg (fun h => hxi h.symm)]
          exact g5

def drawOk (ops : Array Oper) (p : Plan) : Bool := noSel ops && planOk ops p.louds.contains (2 * ops.size + 2) ops.size [] (Array.replicate ops.size false) p

theorem XPlan.mono {Q' : Act → Hp → Prop} (hq : ∀ a L, Q a L → Q' a L) : ∀ (p : Plan) (ac : Al) (lo : List Nat) (pd : Pend) (a : Act) (L : Hp), XPlan P σ ops Q p ac lo pd a L → XPlan P σ ops Q' p ac lo pd a L
  | .done, _, _, _, _, _, h => hq _ _ h
  | .u i p, ac, lo, pd, a, L, ⟨v, o, hi, hy, h⟩ => ⟨v, o, hi, hy, XPlan.mono hq p _ _ _ _ _ h⟩
  | .q i p, ac, lo, pd, a, L, ⟨v, o, hi, hy, h⟩ => ⟨v, o, hi, hy, XPlan.mono hq p _ _ _ _ _ h⟩
  | .l i p, ac, lo, pd, a, L, h => XOpI.mono (fun _ _ ⟨h1, h2⟩ => ⟨h1, XPlan.mono hq p _ _ _ _ _ h2⟩) h
  | .rd i p, ac, lo, pd, a, L, ⟨o, ob, v, h1, h2, h⟩ => ⟨o, ob, v, h1, h2, XPlan.mono hq p _ _ _ _ _ h⟩
  | .al i p, ac, lo, pd, a, L, ⟨o, ob, v, h1, h2, h⟩ => ⟨o, ob, v, h1, h2, fun b => ⟨(h b).1, XPlan.mono hq p _ _ _ _ _ (h b).2⟩⟩

theorem XC.draw {id : Nat} {Q : Exit → Act → Hp → Prop} {a : Act} {L : Hp} (p : Plan) (hm : P.follows .mixedOrders = true) (hp : drawOk ops p = true)
    (h : XPlan P σ ops (Q .normal) p [] [] [] a L) : XC P σ r (.region id ops true) Q a L := by
  intro w F ho
  simp only [drawOk, Bool.and_eq_true] at hp
  have h0 : ∀ x, (Array.replicate ops.size false).getD x false = false := fun x => by
    simp only [Array.getD_eq_getD_getElem?]
    rw [Array.getElem?_replicate]
    split <;> rfl
  have := XPlan.sound (Q := fun a L => Wk (Q .normal a) L) (fun a L L' hp h => h.wk [] (by simpa using hp)) hp.1 _ ops.size [] (Array.replicate ops.size false) p [] [] [] a L hp.2 (fun x o hx => by rw [h0] at hx; cases hx) (fun x hx => by cases hx) trivial
    (fun i g h => by cases h) (fun x hx => by cases hx) (XPlan.mono (fun a L h => Wk.intro h) p _ _ _ _ _ h)
  exact wpIn_region_any hm (XAny.sound (F := F) (fun _ _ ⟨L', ⟨L1, R, hp1, h1⟩, ho'⟩ => ⟨L1, h1, ho'.wk hp1⟩) _ _ _ _ _ _ this (ho.drew _))
end Go.X
