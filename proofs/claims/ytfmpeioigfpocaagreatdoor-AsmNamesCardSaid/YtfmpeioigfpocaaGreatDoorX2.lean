import Derived.Test.YtfmpeioigfpocaaGreatDoorX1
import Derived.Orders
set_option linter.all false
namespace Go.X
variable {P : Program} {σ : Sig}

/-! ### reading only -/
def xq (P : Program) (σ : Sig) {α : Type} : Sem α → (α → Prop) → Hp → Prop
  | .pure a, Q, _ => Q a
  | .load _ a k, Q, L => ∃ v, Rd σ L a v ∧ xq P σ (k v) Q L
  | .shape r k, Q, L => ∃ o, At σ L r o ∧ xq P σ (k (shapeOf o)) Q L
  | .frozen a k, Q, L => ∃ o, At σ L a.block o ∧ xq P σ (k (frozenOf a.off o)) Q L
  | .getObj r k, Q, L => ∃ o, At σ L r o ∧ notCells o ∧ xq P σ (k o) Q L
  | .program k, Q, L => xq P σ (k P) Q L
  | .mark _ k, Q, L => xq P σ k Q L
  | _, _, _ => False

theorem xq_xwp {α : Type} (s : Sem α) {Q : α → Prop} {Q' : α → Hp → Prop} {L : Hp} (hq : ∀ a, Q a → Q' a L) (h : xq P σ s Q L) : xwp P σ s Q' L := by
  induction s with
  | pure a => exact hq _ h
  | load m a k ih => exact let ⟨v, hr, h⟩ := h; ⟨v, hr, ih _ h⟩
  | shape r k ih => exact let ⟨v, hr, h⟩ := h; ⟨v, hr, ih _ h⟩
  | frozen a k ih => exact let ⟨v, hr, h⟩ := h; ⟨v, hr, ih _ h⟩
  | getObj r k ih => exact let ⟨v, hr, hn, h⟩ := h; ⟨v, hr, hn, ih _ h⟩
  | program k ih => exact ih _ h
  | mark m k ih => exact ih h
  | _ => exact h.elim

theorem xq_run {α : Type} (s : Sem α) {Q : α → Prop} {L F : Hp} {w : World} (h : xq P σ s Q L) (ho : Own σ w (L ++ F)) : ∃ a, s.run P w = .ok a w ∧ Q a := by
  induction s with
  | pure a => exact ⟨a, rfl, h⟩
  | load m a k ih =>
    obtain ⟨v, hr, h⟩ := h
    have hr' : Rd σ (L ++ F) a v := let ⟨h1, c, e, fz, ha, hc⟩ := hr; ⟨h1, c, e, fz, ha.mono, hc⟩
    simp only [Sem.run, ho.rd hr']
    exact ih v h
  | shape r k ih => obtain ⟨o, ha, h⟩ := h; simp only [Sem.run, ho.shape ha.mono]; exact ih _ h
  | frozen a k ih => obtain ⟨o, ha, h⟩ := h; simp only [Sem.run, ho.frozen ha.mono]; exact ih _ h
  | getObj r k ih =>
    obtain ⟨o, ha, hn, h⟩ := h
    have := ho.at ha.mono
    simp only [Sem.run, this]
    cases o <;> first | exact hn.elim | exact ih _ h
  | program k ih => exact ih _ h
  | mark m k ih => exact ih h
  | _ => exact h.elim

theorem xq_mono {α : Type} (s : Sem α) {Q Q' : α → Prop} {L : Hp} (hq : ∀ a, Q a → Q' a) (h : xq P σ s Q L) : xq P σ s Q' L := by
  induction s with
  | pure a => exact hq _ h
  | load m a k ih => exact let ⟨v, hr, h⟩ := h; ⟨v, hr, ih _ h⟩
  | shape r k ih => exact let ⟨v, hr, h⟩ := h; ⟨v, hr, ih _ h⟩
  | frozen a k ih => exact let ⟨v, hr, h⟩ := h; ⟨v, hr, ih _ h⟩
  | getObj r k ih => exact let ⟨v, hr, hn, h⟩ := h; ⟨v, hr, hn, ih _ h⟩
  | program k ih => exact ih _ h
  | mark m k ih => exact ih h
  | _ => exact h.elim

theorem xq_bind {α β : Type} (s : Sem α) (f : α → Sem β) {Q : β → Prop} {L : Hp} :
    xq P σ (s >>= f) Q L = xq P σ s (fun a => xq P σ (f a) Q L) L := by
  show xq P σ (s.bind f) Q L = xq P σ s (fun a => xq P σ (f a) Q L) L
  induction s with
  | pure a => rfl
  | load m a k ih => simp only [Sem.bind, xq, ih]
  | store m a v k ih => simp only [Sem.bind, xq]
  | new o k ih => simp only [Sem.bind, xq]
  | shape r k ih => simp only [Sem.bind, xq, ih]
  | freeze a n k ih => simp only [Sem.bind, xq]
  | frozen a k ih => simp only [Sem.bind, xq, ih]
  | getObj r k ih => simp only [Sem.bind, xq, ih]
  | setObj r o k ih => simp only [Sem.bind, xq]
  | choose q k ih => simp only [Sem.bind, xq]
  | sys c k ih => simp only [Sem.bind, xq]
  | program k ih => simp only [Sem.bind, xq, ih]
  | mark m k ih => simp only [Sem.bind, xq, ih]
  | halt h => simp only [Sem.bind, xq]

/-! ### any order -/
def isV (v : Value) : Next → Prop
  | .value u => u = v
  | .skip => v = undef
  | _ => False

/-- operation o, in state a, wherever G holds, yields v and changes nothing -/
def YieldsX (P : Program) (σ : Sig) (ops : Array Oper) (o : Oper) (v : Value) (a : Act) (G : Hp → Prop) : Prop :=
  (Region.wanted o (yielded ops a.tmps) = true ∧ ∀ L, G L → xq P σ (execOp a.eval o) (isV v) L) ∨ (Region.wanted o (yielded ops a.tmps) = false ∧ v = undef)

def XOpI (P : Program) (σ : Sig) (ops : Array Oper) (i : Nat) (K : Act → Hp → Prop) (a : Act) (L : Hp) : Prop :=
  match ops[i]? with
  | none => K a L
  | some o => if Region.wanted o (yielded ops a.tmps) then XOp P σ o a K L else K (a.put o.dst undef) L

theorem XNext_mono {o : Oper} {a : Act} {K K' : Act → Hp → Prop} (h : ∀ a L, K a L → K' a L) (n : Next) (L : Hp) (hn : XNext P σ o a K n L) : XNext P σ o a K' n L := by
  cases n <;> simp only [XNext] at hn ⊢ <;> first | exact h _ _ hn | exact hn.mono (fun _ _ hk => h _ _ hk) | exact hn

theorem XOp.mono {o : Oper} {a : Act} {K K' : Act → Hp → Prop} {L : Hp} (h : ∀ a L, K a L → K' a L) (hx : XOp P σ o a K L) : XOp P σ o a K' L :=
  xwp_mono _ (fun n L hn => XNext_mono (fun a L hk => Wk.mono (fun L => h a L) hk) n L hn) hx

theorem XOpI.mono {ops : Array Oper} {i : Nat} {a : Act} {K K' : Act → Hp → Prop} {L : Hp} (h : ∀ a L, K a L → K' a L) (hx : XOpI P σ ops i K a L) : XOpI P σ ops i K' a L := by
  unfold XOpI at *
  split
  · rename_i ho; simp only [ho] at hx; exact h _ _ hx
  · rename_i o ho
    simp only [ho] at hx
    split
    · rename_i hw; simp only [hw, if_true] at hx; exact hx.mono h
    · rename_i hw; simp only [hw] at hx; exact h _ _ hx

theorem YieldsX.xop {ops : Array Oper} {i : Nat} {o : Oper} {v : Value} {a : Act} {G : Hp → Prop} (hi : ops[i]? = some o) (hy : YieldsX P σ ops o v a G)
    {K : Act → Hp → Prop} {L : Hp} (hG : G L) (h : K (a.put o.dst v) L) : XOpI P σ ops i K a L := by
  unfold XOpI
  simp only [hi]
  rcases hy with ⟨hw, hv⟩ | ⟨hw, rfl⟩
  · simp only [hw, if_true]
    refine xq_xwp _ (fun n hn => ?_) (hv L hG)
    cases n <;> simp only [isV] at hn <;> subst hn <;> exact Wk.intro h
  · simp only [hw, Bool.false_eq_true, if_false]; exact h

theorem YieldsX.of_same {ops : Array Oper} {o : Oper} {v : Value} {a a' : Act} {G : Hp → Prop} (hy : YieldsX P σ ops o v a G) (he : execOp a'.eval o = execOp a.eval o)
    (hw : Region.wanted o (yielded ops a'.tmps) = Region.wanted o (yielded ops a.tmps)) : YieldsX P σ ops o v a' G := by
  unfold YieldsX at *
  rw [he, hw]
  exact hy

theorem XOpI_put {ops : Array Oper} {j : Nat} {oi oj : Oper} {v : Value} {G : Hp → Prop} (hj : ops[j]? = some oj) (hap : oi.apart ops oj = true)
    (hsi : ∀ cs b, oi.op ≠ .select cs b) (hsj : ∀ cs b, oj.op ≠ .select cs b) {K : Act → Hp → Prop} {a : Act} {L : Hp}
    (hy : YieldsX P σ ops oi v a G) (h : XOpI P σ ops j K (a.put oi.dst v) L) :
    XOpI P σ ops j (fun a' L' => YieldsX P σ ops oi v a' G ∧ K (a'.put oi.dst v) L') a L := by
  obtain ⟨h1, h2, h3⟩ := Oper.apart_spec hap
  have keep : ∀ u, YieldsX P σ ops oi v (a.put oj.dst u) G := fun u =>
    hy.of_same (execOp_put oi hsi a oj.dst u h3) (wanted_put oi a oj.dst u h3)
  unfold XOpI at *
  simp only [hj] at *
  rw [wanted_put oj a oi.dst v h1] at h
  split
  · rename_i hw
    simp only [hw, if_true] at h
    unfold XOp at *
    rw [execOp_put oj hsj a oi.dst v h1] at h
    refine xwp_mono _ (fun n L hn => ?_) h
    cases n <;> simp only [XNext] at hn ⊢
    · exact hn.mono fun L' hk => ⟨keep _, by rw [← Act.put_comm a v _ h2]; exact hk⟩
    · exact hn.mono fun L' hk => ⟨keep _, by rw [← Act.put_comm a v undef h2]; exact hk⟩
    · exact hn.mono fun u L' hw => hw.mono fun L'' hk => ⟨keep _, by rw [← Act.put_comm a v u h2]; exact hk⟩
  · rename_i hw
    simp only [hw] at h
    exact ⟨keep _, by rw [← Act.put_comm a v undef h2]; exact h⟩

/-- whatever order is picked from here on; lo: the loud ones that have been carried out; G is asked behind each -/
def XAny (P : Program) (σ : Sig) (ops : Array Oper) (loud : Nat → Bool) (Q : Act → Hp → Prop) (G : List Nat → Hp → Prop) : Nat → Array Bool → List Nat → Act → Hp → Prop
  | 0, listed, _, a, L => Region.ready .any ops listed = [] ∧ Q a L
  | fuel + 1, listed, lo, a, L =>
    (Region.ready .any ops listed = [] → Q a L) ∧
    ∀ i ∈ Region.ready .any ops listed, XOpI P σ ops i (fun a' L' => G (if loud i then i :: lo else lo) L' ∧
      XAny P σ ops loud Q G fuel (listed.setIfInBounds i true) (if loud i then i :: lo else lo) a' L') a L

variable {ops : Array Oper} {loud : Nat → Bool} {Q : Act → Hp → Prop}

theorem XAny.mono {G G' : List Nat → Hp → Prop} (hg : ∀ lo L, G lo L → G' lo L) : ∀ (fuel : Nat) (listed : Array Bool) (lo : List Nat) (a : Act) (L : Hp),
    XAny P σ ops loud Q G fuel listed lo a L → XAny P σ ops loud Q G' fuel listed lo a L
  | 0, _, _, _, _, h => h
  | fuel + 1, _, _, _, _, h => ⟨h.1, fun i hi => (h.2 i hi).mono fun _ _ ⟨h1, h2⟩ => ⟨hg _ _ h1, XAny.mono hg fuel _ _ _ _ h2⟩⟩

theorem XOpI.sound {i : Nat} {a : Act} {L F : Hp} {w : World} {K : Act → Hp → Prop} {Q' : Exit → Act → World → Prop} (h : XOpI P σ ops i K a L) (ho : Own σ w (L ++ F)) :
    wpOp P ops Q' i (lift σ F K) a w := by
  unfold XOpI at h
  unfold wpOp
  split
  · rename_i hi; simp only [hi] at h; exact ⟨L, h, ho⟩
  · rename_i o hi
    simp only [hi] at h
    split
    · rename_i hw; simp only [hw, if_true] at h; exact .inl (XOp.sound h ho)
    · rename_i hw; simp only [hw] at h; exact ⟨L, h, ho⟩

theorem XAny.sound {F : Hp} {Q' : Exit → Act → World → Prop} {G : List Nat → Hp → Prop} (hQ : ∀ a w, lift σ F Q a w → Q' .normal a w) :
    ∀ (fuel : Nat) (listed : Array Bool) (lo : List Nat) (a : Act) (L : Hp) (w : World), XAny P σ ops loud Q G fuel listed lo a L → Own σ w (L ++ F) →
      wpAny P .any ops Q' fuel listed a w
  | 0, _, _, _, L, _, h, ho => ⟨h.1, hQ _ _ ⟨L, h.2, ho⟩⟩
  | fuel + 1, _, _, _, L, _, h, ho => ⟨fun h0 => hQ _ _ ⟨L, h.1 h0, ho⟩, fun i hi =>
      wpOp_mono (fun _ _ ⟨L', h', ho'⟩ => XAny.sound hQ fuel _ _ _ L' _ h'.2 ho') (XOpI.sound (h.2 i hi) ho)⟩

inductive Reach (ops : Array Oper) : Nat → Nat → Prop
  | edge {j : Nat} {o : Oper} {e : Edge} (hj : ops[j]? = some o) (he : e ∈ o.after) (hb : Region.binds .any e = true) : Reach ops j e.on
  | step {j i : Nat} {o : Oper} {e : Edge} (hj : ops[j]? = some o) (he : e ∈ o.after) (hb : Region.binds .any e = true) (h : Reach ops e.on i) : Reach ops j i

def DC (ops : Array Oper) (listed : Array Bool) : Prop :=
  ∀ x o, listed.getD x false = true → ops[x]? = some o → ∀ e ∈ o.after, Region.binds .any e = true → listed.getD e.on false = true

theorem reach_listed {listed : Array Bool} (hd : DC ops listed) {j i : Nat} (h : Reach ops j i) :
    (∀ o, ops[j]? = some o → ∀ e ∈ o.after, Region.binds .any e = true → listed.getD e.on false = true) → listed.getD i false = true := by
  induction h with
  | edge hj he hb => exact fun hp => hp _ hj _ he hb
  | step hj he hb h ih => exact fun hp => ih fun o ho => hd _ o (hp _ hj _ he hb) ho

def mask (acc : List Nat) (es : List Edge) : Nat := es.foldl (fun s e => if Region.binds .any e then s ||| 2 ^ e.on ||| acc.getD e.on 0 else s) 0
def befs (acc : List Nat) : List Oper → List Nat
  | [] => acc
  | o :: os => befs (acc ++ [mask acc o.after.toList]) os

theorem mask_spec (acc : List Nat) (i : Nat) : ∀ (es : List Edge) (s : Nat), (es.foldl (fun s e => if Region.binds .any e then s ||| 2 ^ e.on ||| acc.getD e.on 0 else s) s).testBit i = true →
    s.testBit i = true ∨ ∃ e ∈ es, Region.binds .any e = true ∧ (e.on = i ∨ (acc.getD e.on 0).testBit i = true)
  | [], s, h => .inl h
  | e :: es, s, h => by
    simp only [List.foldl_cons] at h
    rcases mask_spec acc i es _ h with h | ⟨e', he', h⟩
    · split at h
      · rename_i hb
        simp only [Nat.testBit_or, Bool.or_eq_true] at h
        rcases h with (h | h) | h
        · exact .inl h
        · refine .inr ⟨e, by simp, hb, .inl ?_⟩
          rw [Nat.testBit_two_pow] at h
          simpa using h
        · exact .inr ⟨e, by simp, hb, .inr h⟩
      · exact .inl h
    · exact .inr ⟨e', by simp [he'], h⟩

theorem befs_spec : ∀ (os : List Oper) (acc : List Nat) (pre : List Oper), ops.toList = pre ++ os → acc.length = pre.length →
    (∀ j i, (acc.getD j 0).testBit i = true → Reach ops j i) → ∀ j i, ((befs acc os).getD j 0).testBit i = true → Reach ops j i
  | [], acc, pre, _, _, h => h
  | o :: os, acc, pre, hops, hl, h => by
    refine befs_spec os _ (pre ++ [o]) (by simp [hops]) (by simp [hl]) ?_
    intro j i hb
    by_cases hj : j < acc.length
    · rw [List.getD_eq_getElem?_getD, List.getElem?_append_left hj, ← List.getD_eq_getElem?_getD] at hb
      exact h j i hb
    · by_cases hj2 : j = acc.length
      · subst hj2
        have ho : ops[acc.length]? = some o := by
          rw [← Array.getElem?_toList, hops, hl]
          simp
        simp at hb
        rcases mask_spec acc i _ _ hb with h0 | ⟨e, he, hbe, h0⟩
        · simp at h0
        · have he' : e ∈ o.after := by simpa using he
          rcases h0 with rfl | h0
          · exact .edge ho he' hbe
          · exact .step ho he' hbe (h _ _ h0)
      · have : ¬ j < (acc ++ [mask acc o.after.toList]).length := by simp; omega
        rw [List.getD_eq_getElem?_getD, List.getElem?_eq_none (by omega)] at hb
        simp at hb

def pendB (ops : Array Oper) (i : Nat) (lo : List Nat) : Bool := lo.all fun j => !((befs [] ops.toList).getD j 0).testBit i

theorem DC.set {listed : Array Bool} {i : Nat} (hd : DC ops listed) (hi : i ∈ Region.ready .any ops listed) : DC ops (listed.setIfInBounds i true) := by
  obtain ⟨h0, o, ho, hall⟩ := mem_ready.1 hi
  intro x ox hx hox e he hb
  by_cases hxi : x = i
  · subst hxi
    rw [ho] at hox; cases hox
    exact getD_set_true (hall e he hb)
  · rw [getD_set_ne false (Ne.symm hxi)] at hx
    exact getD_set_true (hd x ox hx hox e he hb)

def LO (listed : Array Bool) (lo : List Nat) : Prop := ∀ x ∈ lo, listed.getD x false = true

theorem pend_ok {listed : Array Bool} {lo : List Nat} {i : Nat} (hd : DC ops listed) (hl : LO listed lo) (hi : listed.getD i false = false) : pendB ops i lo = true := by
  unfold pendB
  rw [List.all_eq_true]
  intro j hj
  cases h : ((befs [] ops.toList).getD j 0).testBit i with
  | false => rfl
  | true =>
    exfalso
    have hr := befs_spec (ops := ops) ops.toList [] [] rfl rfl (fun j i h => by simp at h) j i h
    have := reach_listed hd hr (fun o ho => hd j o (hl j hj) ho)
    rw [hi] at this; cases this

/-- a quiet operation may be taken first -/
theorem XAny.take {i : Nat} {oi : Oper} {v : Value} {G : List Nat → Hp → Prop} {Gi : Hp → Prop} (hi : ops[i]? = some oi)
    (hsel : ∀ (j : Nat) (o : Oper) cs b, ops[j]? = some o → o.op ≠ .select cs b) (hq : loud i = false) :
    ∀ (fuel : Nat) (listed : Array Bool) (lo : List Nat) (a : Act) (L : Hp), DC ops listed → LO listed lo →
      (∀ j oj, ops[j]? = some oj → j ≠ i → listed.getD j true = false → (∀ e ∈ oj.after, Region.binds .any e = true → e.on ≠ i) → oi.apart ops oj = true) →
      i ∈ Region.ready .any ops listed → YieldsX P σ ops oi v a Gi → Gi L → G lo L →
      XAny P σ ops loud Q (fun lo L => G lo L ∧ (pendB ops i lo = true → Gi L)) fuel (listed.setIfInBounds i true) lo (a.put oi.dst v) L →
      XAny P σ ops loud Q G (fuel + 1) listed lo a L := by
  intro fuel
  induction fuel with
  | zero =>
    intro listed lo a L _ _ _ hr hy hGi hG H
    refine ⟨fun h => (by rw [h] at hr; cases hr), fun j hj => ?_⟩
    by_cases hji : j = i
    · subst hji
      rw [hq]
      exact hy.xop hi hGi ⟨hG, H⟩
    · have := ready_mono hj hji
      rw [H.1] at this
      cases this
  | succ fuel ih =>
    intro listed lo a L hdc hlo hfree hr hy hGi hG H
    refine ⟨fun h => (by rw [h] at hr; cases hr), fun j hj => ?_⟩
    by_cases hji : j = i
    · subst hji
      rw [hq]
      exact hy.xop hi hGi ⟨hG, XAny.mono (fun _ _ h => h.1) _ _ _ _ _ H⟩
    · have h1 := H.2 j (ready_mono hj hji)
      obtain ⟨hjun, oj, hoj, hall⟩ := mem_ready.1 hj
      have hun : listed.getD i true = false := (mem_ready.1 hr).1
      have hun' : listed.getD i false = false := by
        rcases Nat.lt_or_ge i listed.size with h' | h'
        · simp [h'] at hun ⊢; exact hun
        · simp [Array.getElem?_eq_none h']
      have hnot : ∀ e ∈ oj.after, Region.binds .any e = true → e.on ≠ i := fun e he hb heq => by
        have h1 := hall e he hb
        rw [heq, hun'] at h1; cases h1
      have h2 := XOpI_put hoj (hfree j oj hoj hji hjun hnot) (fun cs b => hsel i oi cs b hi) (fun cs b => hsel j oj cs b hoj) hy h1
      have hdc' := hdc.set hj
      have hlo' : LO (listed.setIfInBounds j true) (if loud j then j :: lo else lo) := by
        intro x hx
        have hjl : (listed.setIfInBounds j true).getD j false = true := by
          rcases Nat.lt_or_ge j listed.size with h' | h'
          · simp [h']
          · exfalso; simp [Array.getElem?_eq_none h'] at hjun
        split at hx
        · rcases List.mem_cons.1 hx with rfl | hx
          · exact hjl
          · exact getD_set_true (hlo x hx)
        · exact getD_set_true (hlo x hx)
      have hun2 : (listed.setIfInBounds j true).getD i false = false := by rw [getD_set_ne false hji]; exact hun'
      have hp := pend_ok hdc' hlo' hun2
      refine h2.mono fun a' L' ⟨hy', hG', H'⟩ => ⟨hG'.1, ?_⟩
      refine ih _ _ a' L' hdc' hlo' ?_ (ready_mono hr (Ne.symm hji)) hy' (hG'.2 hp) hG'.1 ?_
      · intro k ok hk hki hunk hno
        refine hfree k ok hk hki ?_ hno
        by_cases hjk : j = k
        · subst hjk; exact hjun
        · rw [getD_set_ne true hjk] at hunk; exact hunk
      · rw [Array.setIfInBounds_comm _ _ hji]; exact H'

/-! ### the plan of a region that draws: quiet operations as early as may be (q), loud ones one by one, or whichever comes -/
inductive Plan where
  | done
  | u (i : Nat) (p : Plan)
  | q (i : Nat) (p : Plan)
  | l (i : Nat) (p : Plan)
  | l2 (i : Nat) (p : Plan) (j : Nat) (p' : Plan)
  | l3 (i : Nat) (p : Plan) (j : Nat) (p' : Plan) (k : Nat) (p'' : Plan)

abbrev Pend := List (Nat × (Hp → Prop))

def recheck (ops : Array Oper) (lo : List Nat) (L : Hp) : Pend → Prop
  | [] => True
  | (i, g) :: t => (if pendB ops i lo then g L else True) ∧ recheck ops lo L t

def XPlan (P : Program) (σ : Sig) (ops : Array Oper) (Q : Act → Hp → Prop) : Plan → List Nat → Pend → Act → Hp → Prop
  | .done, _, _, a, L => Q a L
  | .q i p, lo, pd, a, L => ∃ v o, ops[i]? = some o ∧ ((Region.wanted o (yielded ops a.tmps) = true ∧ xq P σ (execOp a.eval o) (isV v) L) ∨ (Region.wanted o (yielded ops a.tmps) = false ∧ v = undef)) ∧
      XPlan P σ ops Q p lo ((i, fun L => Region.wanted o (yielded ops a.tmps) = true → xq P σ (execOp a.eval o) (isV v) L) :: pd) (a.put o.dst v) L
  | .u i p, lo, pd, a, L => ∃ v o, ops[i]? = some o ∧ ((Region.wanted o (yielded ops a.tmps) = true ∧ ∀ L, xq P σ (execOp a.eval o) (isV v) L) ∨ (Region.wanted o (yielded ops a.tmps) = false ∧ v = undef)) ∧
      XPlan P σ ops Q p lo pd (a.put o.dst v) L
  | .l i p, lo, pd, a, L => XOpI P σ ops i (fun a' L' => recheck ops (i :: lo) L' pd ∧ XPlan P σ ops Q p (i :: lo) pd a' L') a L
  | .l2 i p j p', lo, pd, a, L => XOpI P σ ops i (fun a' L' => recheck ops (i :: lo) L' pd ∧ XPlan P σ ops Q p (i :: lo) pd a' L') a L ∧
      XOpI P σ ops j (fun a' L' => recheck ops (j :: lo) L' pd ∧ XPlan P σ ops Q p' (j :: lo) pd a' L') a L
  | .l3 i p j p' k p'', lo, pd, a, L => XOpI P σ ops i (fun a' L' => recheck ops (i :: lo) L' pd ∧ XPlan P σ ops Q p (i :: lo) pd a' L') a L ∧
      XOpI P σ ops j (fun a' L' => recheck ops (j :: lo) L' pd ∧ XPlan P σ ops Q p' (j :: lo) pd a' L') a L ∧
      XOpI P σ ops k (fun a' L' => recheck ops (k :: lo) L' pd ∧ XPlan P σ ops Q p'' (k :: lo) pd a' L') a L

def freeB (ops : Array Oper) (listed : Array Bool) (i : Nat) : Bool :=
  match ops[i]? with
  | none => false
  | some oi => (List.range ops.size).all fun j => j == i || listed.getD j true || ((ops[j]?).map fun oj => oj.after.any (fun e => Region.binds .any e && e.on == i) || oi.apart ops oj).getD true

theorem freeB_spec {listed : Array Bool} {i : Nat} {oi : Oper} (hi : ops[i]? = some oi) (h : freeB ops listed i = true) :
    ∀ j oj, ops[j]? = some oj → j ≠ i → listed.getD j true = false → (∀ e ∈ oj.after, Region.binds .any e = true → e.on ≠ i) → oi.apart ops oj = true := by
  intro j oj hj hne hl hno
  unfold freeB at h
  simp only [hi, List.all_eq_true, List.mem_range] at h
  have := h j (Array.getElem?_eq_some_iff.1 hj).1
  simp only [hj, Option.map_some, Option.getD_some, hl, Bool.or_false, Bool.or_eq_true, beq_iff_eq] at this
  rcases this with h1 | h1 | h1
  · exact absurd h1 hne
  · rw [Array.any_eq_true] at h1
    obtain ⟨k, hk, h1⟩ := h1
    simp only [Bool.and_eq_true, beq_iff_eq] at h1
    exact absurd h1.2 (hno _ (Array.getElem_mem hk) h1.1)
  · exact h1

def noSel (ops : Array Oper) : Bool := ops.all fun o => match o.op with | .select .. => false | _ => true

theorem noSel_spec (h : noSel ops = true) (j : Nat) (o : Oper) (cs : Array SelectCase) (b : Bool) (hj : ops[j]? = some o) : o.op ≠ .select cs b := by
  intro he
  unfold noSel at h
  rw [Array.all_eq_true] at h
  obtain ⟨hlt, hg⟩ := Array.getElem?_eq_some_iff.1 hj
  have := h j hlt
  rw [hg, he] at this
  cases this

def Plan.louds : Plan → List Nat
  | .done => []
  | .u _ p => p.louds
  | .q _ p => p.louds
  | .l i p => i :: p.louds
  | .l2 i p j p' => i :: j :: (p.louds ++ p'.louds)
  | .l3 i p j p' k p'' => i :: j :: k :: (p.louds ++ p'.louds ++ p''.louds)

def planOk (ops : Array Oper) (loud : Nat → Bool) : Nat → Array Bool → Plan → Bool
  | n, listed, .done => n == 0 && (Region.ready .any ops listed).isEmpty
  | 0, _, _ => false
  | n + 1, listed, .q i p => (Region.ready .any ops listed).contains i && !loud i && freeB ops listed i && planOk ops loud n (listed.setIfInBounds i true) p
  | n + 1, listed, .u i p => (Region.ready .any ops listed).contains i && !loud i && freeB ops listed i && planOk ops loud n (listed.setIfInBounds i true) p
  | n + 1, listed, .l i p => Region.ready .any ops listed == [i] && loud i && planOk ops loud n (listed.setIfInBounds i true) p
  | n + 1, listed, .l2 i p j p' => Region.ready .any ops listed == [i, j] && loud i && loud j && planOk ops loud n (listed.setIfInBounds i true) p && planOk ops loud n (listed.setIfInBounds j true) p'
  | n + 1, listed, .l3 i p j p' k p'' => Region.ready .any ops listed == [i, j, k] && loud i && loud j && loud k && planOk ops loud n (listed.setIfInBounds i true) p &&
      planOk ops loud n (listed.setIfInBounds j true) p' && planOk ops loud n (listed.setIfInBounds k true) p''

theorem XPlan.sound (hs : noSel ops = true) : ∀ (p : Plan) (n : Nat) (listed : Array Bool) (lo : List Nat) (pd : Pend) (a : Act) (L : Hp),
    planOk ops loud n listed p = true → DC ops listed → LO listed lo → recheck ops lo L pd → XPlan P σ ops Q p lo pd a L →
    XAny P σ ops loud Q (fun lo L => recheck ops lo L pd) n listed lo a L := by
  have loSet : ∀ {listed : Array Bool} {lo : List Nat} {i : Nat}, LO listed lo → i ∈ Region.ready .any ops listed → LO (listed.setIfInBounds i true) (i :: lo) := by
    intro listed lo i hlo hi x hx
    rcases List.mem_cons.1 hx with rfl | hx
    · have := (mem_ready.1 hi).1
      rcases Nat.lt_or_ge x listed.size with h' | h'
      · simp [h']
      · exfalso; simp [Array.getElem?_eq_none h'] at this
    · exact getD_set_true (hlo x hx)
  intro p
  induction p with
  | done =>
    intro n listed lo pd a L hp _ _ _ h
    cases n with
    | zero => simp [planOk] at hp; exact ⟨hp, h⟩
    | succ n => simp [planOk] at hp
  | u i p ih =>
    intro n listed lo pd a L hp hdc hlo hr h
    cases n with
    | zero => simp [planOk] at hp
    | succ n =>
      simp only [planOk, Bool.and_eq_true, Bool.not_eq_true', List.contains_iff_mem] at hp
      obtain ⟨⟨⟨hrd, hq⟩, hf⟩, hp⟩ := hp
      obtain ⟨v, o, hi, hy, h⟩ := h
      have hlo' : LO (listed.setIfInBounds i true) lo := fun x hx => getD_set_true (hlo x hx)
      refine XAny.take (v := v) (Gi := fun _ => True) hi (noSel_spec hs) hq n listed lo a L hdc hlo (freeB_spec hi hf) hrd ?_ trivial hr ?_
      · rcases hy with hy | hy
        · exact .inl ⟨hy.1, fun L _ => hy.2 L⟩
        · exact .inr hy
      · exact XAny.mono (fun lo L h1 => ⟨h1, fun _ => trivial⟩) _ _ _ _ _ (ih n _ lo _ _ L hp (hdc.set hrd) hlo' hr h)
  | q i p ih =>
    intro n listed lo pd a L hp hdc hlo hr h
    cases n with
    | zero => simp [planOk] at hp
    | succ n =>
      simp only [planOk, Bool.and_eq_true, Bool.not_eq_true', List.contains_iff_mem] at hp
      obtain ⟨⟨⟨hrd, hq⟩, hf⟩, hp⟩ := hp
      obtain ⟨v, o, hi, hy, h⟩ := h
      have hlo' : LO (listed.setIfInBounds i true) lo := fun x hx => getD_set_true (hlo x hx)
      have hG : (fun L => Region.wanted o (yielded ops a.tmps) = true → xq P σ (execOp a.eval o) (isV v) L) L := by
        intro hw
        rcases hy with hy | hy
        · exact hy.2
        · rw [hw] at hy; cases hy.1
      refine XAny.take (v := v) (Gi := fun L => Region.wanted o (yielded ops a.tmps) = true → xq P σ (execOp a.eval o) (isV v) L) hi (noSel_spec hs) hq n listed lo a L hdc hlo (freeB_spec hi hf) hrd ?_ hG hr ?_
      · rcases hy with hy | hy
        · exact .inl ⟨hy.1, fun L hL => hL hy.1⟩
        · exact .inr hy
      · refine XAny.mono ?_ _ _ _ _ _ (ih n _ lo _ _ L hp (hdc.set hrd) hlo' ?_ h)
        · rintro lo L ⟨h1, h2⟩
          exact ⟨h2, fun hp => by rw [if_pos hp] at h1; exact h1⟩
        · exact ⟨by split <;> first | exact hG | trivial, hr⟩
  | l i p ih =>
    intro n listed lo pd a L hp hdc hlo hr h
    cases n with
    | zero => simp [planOk] at hp
    | succ n =>
      simp only [planOk, Bool.and_eq_true, beq_iff_eq] at hp
      obtain ⟨⟨hrd, hl⟩, hp⟩ := hp
      refine ⟨fun h0 => (by rw [hrd] at h0; cases h0), fun x hx => ?_⟩
      have hm := hx
      rw [hrd] at hx
      obtain rfl : x = i := by simpa using hx
      rw [hl]
      exact XOpI.mono (fun a' L' ⟨h1, h2⟩ => ⟨h1, ih n _ _ pd a' L' hp (hdc.set hm) (loSet hlo hm) h1 h2⟩) h
  | l2 i p j p' ih ih' =>
    intro n listed lo pd a L hp hdc hlo hr h
    cases n with
    | zero => simp [planOk] at hp
    | succ n =>
      simp only [planOk, Bool.and_eq_true, beq_iff_eq] at hp
      obtain ⟨⟨⟨⟨hrd, hl⟩, hl'⟩, hp⟩, hp'⟩ := hp
      refine ⟨fun h0 => (by rw [hrd] at h0; cases h0), fun x hx => ?_⟩
      have hm := hx
      rw [hrd] at hx
      simp only [List.mem_cons, List.not_mem_nil, or_false] at hx
      rcases hx with rfl | rfl
      · rw [hl]
        exact XOpI.mono (fun a' L' ⟨h1, h2⟩ => ⟨h1, ih n _ _ pd a' L' hp (hdc.set hm) (loSet hlo hm) h1 h2⟩) h.1
      · rw [hl']
        exact XOpI.mono (fun a' L' ⟨h1, h2⟩ => ⟨h1, ih' n _ _ pd a' L' hp' (hdc.set hm) (loSet hlo hm) h1 h2⟩) h.2
  | l3 i p j p' k p'' ih ih' ih'' =>
    intro n listed lo pd a L hp hdc hlo hr h
    cases n with
    | zero => simp [planOk] at hp
    | succ n =>
      simp only [planOk, Bool.and_eq_true, beq_iff_eq] at hp
      obtain ⟨⟨⟨⟨⟨⟨hrd, hl⟩, hl'⟩, hl''⟩, hp⟩, hp'⟩, hp''⟩ := hp
      refine ⟨fun h0 => (by rw [hrd] at h0; cases h0), fun x hx => ?_⟩
      have hm := hx
      rw [hrd] at hx
      simp only [List.mem_cons, List.not_mem_nil, or_false] at hx
      rcases hx with rfl | rfl | rfl
      · rw [hl]
        exact XOpI.mono (fun a' L' ⟨h1, h2⟩ => ⟨h1, ih n _ _ pd a' L' hp (hdc.set hm) (loSet hlo hm) h1 h2⟩) h.1
      · rw [hl']
        exact XOpI.mono (fun a' L' ⟨h1, h2⟩ => ⟨h1, ih' n _ _ pd a' L' hp' (hdc.set hm) (loSet hlo hm) h1 h2⟩) h.2.1
      · rw [hl'']
        exact XOpI.mono (fun a' L' ⟨h1, h2⟩ => ⟨h1, ih'' n _ _ pd a' L' hp'' (hdc.set hm) (loSet hlo hm) h1 h2⟩) h.2.2

def drawOk (ops : Array Oper) (p : Plan) : Bool := noSel ops && planOk ops p.louds.contains ops.size (Array.replicate ops.size false) p

theorem XC.draw {id : Nat} {Q : Exit → Act → Hp → Prop} {a : Act} {L : Hp} (p : Plan) (hm : P.follows .mixedOrders = true) (hp : drawOk ops p = true)
    (h : XPlan P σ ops (Q .normal) p [] [] a L) : XC P σ (.region id ops true) Q a L := by
  intro w F ho
  simp only [drawOk, Bool.and_eq_true] at hp
  have h0 : ∀ x, (Array.replicate ops.size false).getD x false = false := fun x => by
    simp only [Array.getD_eq_getD_getElem?]
    rw [Array.getElem?_replicate]
    split <;> rfl
  have := XPlan.sound hp.1 p ops.size (Array.replicate ops.size false) [] [] a L hp.2 (fun x o hx => by rw [h0] at hx; cases hx) (fun x hx => by cases hx) trivial h
  exact wp_region_any hm (XAny.sound (F := F) (fun _ _ ⟨L', h', ho'⟩ => ⟨L', h', ho'⟩) _ _ _ _ _ _ this (ho.drew _))
end Go.X
