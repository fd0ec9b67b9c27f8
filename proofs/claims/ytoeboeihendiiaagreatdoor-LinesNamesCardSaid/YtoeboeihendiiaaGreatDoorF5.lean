import Derived.Test.YtoeboeihendiiaaGreatDoorF0
set_option linter.all false
namespace Go.E
open Go.X

/-- closed calls of which the results are known -/
abbrev Tab := List (FuncId × List V × V)

def all2 : List V → List V → Bool
  | [], [] => true
  | a :: l, b :: m => same a b && all2 l m
  | _, _ => false

theorem all2_spec : ∀ {a b : List V}, all2 a b = true → a = b
  | [], [], _ => rfl
  | [], _ :: _, h => by cases h
  | _ :: _, [], h => by cases h
  | a :: l, b :: m, h => by
    simp only [all2, Bool.and_eq_true] at h
    rw [same_spec h.1, all2_spec h.2]

def lookTab : Tab → FuncId → List V → Option V
  | [], _, _ => none
  | (g, aa, r) :: t, f, bs => match Nat.beq f g with
    | true => match all2 aa bs with
      | true => some r
      | false => lookTab t f bs
    | false => lookTab t f bs

theorem lookTab_mem : ∀ {t : Tab} {f : FuncId} {bs : List V} {r : V}, lookTab t f bs = some r → (f, bs, r) ∈ t
  | [], _, _, _, h => by cases h
  | (g, aa, r') :: t, f, bs, r, h => by
    unfold lookTab at h
    split at h
    · rename_i hf
      split at h
      · rename_i ha
        cases h
        rw [Nat.eq_of_beq_eq_true hf, ← all2_spec ha]
        simp
      · exact List.mem_cons_of_mem _ (lookTab_mem h)
    · exact List.mem_cons_of_mem _ (lookTab_mem h)

def TabOk (P : Program) (σ : Sig) (t : Tab) : Prop :=
  ∀ f aa r, (f, aa, r) ∈ t → ∃ x xs, den [] r = some x ∧ dens [] aa = some xs ∧ X.Spec P σ f xs.toArray (fun y _ => y = x) []

theorem TabOk.nil {P : Program} {σ : Sig} : TabOk P σ [] := fun _ _ _ h => by cases h

theorem TabOk.cons {P : Program} {σ : Sig} {Z : Ex} {k : Nat} {f : FuncId} {aa : List V} {r : V} {t : Tab} (hm : P.follows .mixedOrders = true) (hz : ExOk P σ Z)
    (h : resOf (ev P Z k (.call f aa) ⟨.leaf, 0⟩) = some r) (h1 : (den [] r).isSome = true) (h2 : (dens [] aa).isSome = true) (ht : TabOk P σ t) : TabOk P σ ((f, aa, r) :: t) := by
  intro f' aa' r' hm'
  rcases List.mem_cons.1 hm' with he | he
  · cases he
    obtain ⟨x, hx⟩ := Option.isSome_iff_exists.1 h1
    obtain ⟨xs, hxs⟩ := Option.isSome_iff_exists.1 h2
    exact ⟨x, xs, hx, hxs, run_res hm hz h hxs hx⟩
  · exact ht _ _ _ he

theorem dens_nil_mono {N : Nm} {l : List V} {xs : List Value} (h : dens [] l = some xs) : dens N l = some xs := dens_mono (fun k p hp => by simp at hp) l xs h

theorem ExOk.tab {P : Program} {σ : Sig} {ne mn : Nat} {gl : Nat → Nat → Option Value} {o : FuncId → List V → Option V} {oh : FuncId → List V → St → Option (V × St)} {t : Tab} (hz : ExOk P σ ⟨ne, mn, gl, o, oh⟩) (ht : TabOk P σ t) : ExOk P σ ⟨ne, mn, gl, lookTab t, oh⟩ where
  gl := hz.gl
  ne := hz.ne
  mn := hz.mn
  orh := hz.orh
  orc := fun f aa v h => by
    obtain ⟨x, xs, h1, h2, h3⟩ := ht _ _ _ (lookTab_mem h)
    refine ⟨x, fun N => den_mono (fun k p hp => by simp at hp) v x h1, fun N ys hy => ?_⟩
    rw [dens_nil_mono h2] at hy
    cases hy
    exact h3

/-- looked up only where m has the function's bit -/
def lookK (m : Nat) (t : Tab) : FuncId → List V → Option V := fun f bs => match Nat.beq (Nat.land (Nat.shiftRight m f) 1) 1 with
  | true => lookTab t f bs
  | false => none

theorem ExOk.tabM {P : Program} {σ : Sig} {ne mn : Nat} {gl : Nat → Nat → Option Value} {o : FuncId → List V → Option V} {oh : FuncId → List V → St → Option (V × St)} {t : Tab} {m : Nat} (hz : ExOk P σ ⟨ne, mn, gl, o, oh⟩) (ht : TabOk P σ t) : ExOk P σ ⟨ne, mn, gl, lookK m t, oh⟩ where
  gl := hz.gl
  ne := hz.ne
  mn := hz.mn
  orh := hz.orh
  orc := fun f aa v h => by
    have h : lookK m t f aa = some v := h
    unfold lookK at h
    split at h
    · exact (hz.tab ht).orc f aa v h
    · cases h

def noH : FuncId → List V → St → Option (V × St) := fun _ _ _ => none

def eqT : T V → T V → Bool
  | .leaf, .leaf => true
  | .node none l r, .node none l' r' => eqT l l' && eqT r r'
  | .node (some a) l r, .node (some b) l' r' => same a b && (eqT l l' && eqT r r')
  | _, _ => false
def eqOpt : Option Nat → Option Nat → Bool
  | none, none => true
  | some a, some b => Nat.beq a b
  | _, _ => false
def eqB : Bool → Bool → Bool
  | true, true => true
  | false, false => true
  | _, _ => false
def eqEs : List (V × V × Nat) → List (V × V × Nat) → Bool
  | [], [] => true
  | (a, b, n) :: l, (a', b', n') :: l' => same a a' && (same b b' && (Nat.beq n n' && eqEs l l'))
  | _, _ => false
def eqK : Option K → Option K → Bool
  | none, none => true
  | some (.map es ck), some (.map es' ck') => Nat.beq ck ck' && eqEs es es'
  | _, _ => false
def eqO (o o' : O) : Bool := eqT o.cells o'.cells && (Nat.beq o.size o'.size && (Nat.beq o.e o'.e && (eqOpt o.fz o'.fz && (eqB o.op o'.op && eqK o.k o'.k))))
theorem eqT_spec : ∀ {a b : T V}, eqT a b = true → a = b
  | .leaf, .leaf, _ => rfl
  | .node none l r, .node none l' r', h => by
    simp only [eqT, Bool.and_eq_true] at h
    rw [eqT_spec h.1, eqT_spec h.2]
  | .node (some a) l r, .node (some b) l' r', h => by
    simp only [eqT, Bool.and_eq_true] at h
    rw [same_spec h.1, eqT_spec h.2.1, eqT_spec h.2.2]
  | .leaf, .node .., h => by simp [eqT] at h
  | .node .., .leaf, h => by simp [eqT] at h
  | .node none _ _, .node (some _) _ _, h => by simp [eqT] at h
  | .node (some _) _ _, .node none _ _, h => by simp [eqT] at h
theorem eqOpt_spec : ∀ {a b : Option Nat}, eqOpt a b = true → a = b
  | none, none, _ => rfl
  | some a, some b, h => by rw [Nat.eq_of_beq_eq_true h]
  | none, some _, h => by cases h
  | some _, none, h => by cases h
theorem eqB_spec : ∀ {a b : Bool}, eqB a b = true → a = b
  | true, true, _ => rfl
  | false, false, _ => rfl
  | true, false, h => by cases h
  | false, true, h => by cases h
theorem eqEs_spec : ∀ {a b : List (V × V × Nat)}, eqEs a b = true → a = b
  | [], [], _ => rfl
  | (a, b, n) :: l, (a', b', n') :: l', h => by
    simp only [eqEs, Bool.and_eq_true] at h
    rw [same_spec h.1, same_spec h.2.1, Nat.eq_of_beq_eq_true h.2.2.1, eqEs_spec h.2.2.2]
  | [], _ :: _, h => by cases h
  | _ :: _, [], h => by cases h
theorem eqK_spec {a b : Option K} (h : eqK a b = true) : a = b := by
  unfold eqK at h
  split at h
  · rfl
  · simp only [Bool.and_eq_true] at h
    rw [Nat.eq_of_beq_eq_true h.1, eqEs_spec h.2]
  · cases h
theorem eqO_spec {o o' : O} (h : eqO o o' = true) : o = o' := by
  simp only [eqO, Bool.and_eq_true] at h
  obtain ⟨h1, h2, h3, h4, h5, h6⟩ := h
  cases o; cases o'
  simp only [O.mk.injEq]
  exact ⟨eqT_spec h1, Nat.eq_of_beq_eq_true h2, Nat.eq_of_beq_eq_true h3, eqOpt_spec h4, eqB_spec h5, eqK_spec h6⟩

/-- are these blocks there? -/
def hasAll : List (Nat × O) → T (Option O) → Bool
  | [], _ => true
  | (k, o) :: l, h => match h.get k with
    | some (some o') => match eqO o o' with
      | true => hasAll l h
      | false => false
    | _ => false
theorem hasAll_spec : ∀ {l : List (Nat × O)} {h : T (Option O)}, hasAll l h = true → ∀ p ∈ l, h.get p.1 = some (some p.2)
  | [], _, _, _, hp => by cases hp
  | (k, o) :: l, h, ha, p, hp => by
    unfold hasAll at ha
    split at ha
    · rename_i o' ho
      split at ha
      · rename_i he
        rcases List.mem_cons.1 hp with rfl | hp
        · rw [ho, eqO_spec he]
        · exact hasAll_spec ha p hp
      · cases ha
    · cases ha

def mkSt (os : List (Nat × O)) (n : Nat) : St := ⟨insAll os .leaf, n⟩

theorem SRel.less {P : Program} {N : Nm} {S : St} {L : Hp} {os : List (Nat × O)} {n : Nat} (h : SRel P N S L) (hn : S.nx = n) (ha : hasAll os S.h = true) : SRel P N (mkSt os n) L := by
  obtain ⟨h1, l, h2, h3, h4⟩ := h
  refine ⟨h1.trans hn, l, fun k o hk => ?_, h3, h4⟩
  rcases insAll_get hk with hk | hk
  · exact h2 k o (hasAll_spec ha _ hk)
  · simp [T.get_leaf] at hk

/-- a known call: from a state to a state -/
structure HE where
  f : FuncId
  aa : List V
  n : Nat
  os : List (Nat × O)
  v : V
  n' : Nat
  os' : List (Nat × O)

def pickOf (os : List (Nat × O)) : Res → Option (V × Nat × Bool)
  | .val v S => some (v, S.nx, hasAll os S.h)
  | _ => none

def HEok (P : Program) (Z : Ex) (k : Nat) (e : HE) : Prop := pickOf e.os' (ev P Z k (.call e.f e.aa) (mkSt e.os e.n)) = some (e.v, e.n', true)

def lookH : List HE → FuncId → List V → St → Option (V × St)
  | [], _, _, _ => none
  | e :: t, f, bs, S => match Nat.beq f e.f, Nat.beq S.nx e.n with
    | true, true => match all2 bs e.aa, hasAll e.os S.h with
      | true, true => some (e.v, mkSt e.os' e.n')
      | _, _ => lookH t f bs S
    | _, _ => lookH t f bs S

theorem HEok.heap {P : Program} {σ : Sig} {Z : Ex} {k : Nat} {e : HE} (hm : P.follows .mixedOrders = true) (hz : ExOk P σ Z) (h : HEok P Z k e) {S : St} (hn : S.nx = e.n) (ha : hasAll e.os S.h = true) :
    HeapOk P σ e.f e.aa S e.v (mkSt e.os' e.n') := by
  intro N xs L hs hxs
  unfold HEok pickOf at h
  split at h
  · rename_i w S1 hr
    simp only [Option.some.injEq, Prod.mk.injEq] at h
    obtain ⟨hw, hn', hb⟩ := h
    rw [← hw]
    refine Spec.mono ((ev_sound (σ := σ) hm hz k).call e.f e.aa _ w S1 hr N L xs hxs (hs.less hn ha)) ?_
    rintro y L' ⟨M, hM, hd, hs'⟩
    exact ⟨M, hM, hd, hs'.less hn' hb⟩
  · cases h

theorem lookH_ok {P : Program} {σ : Sig} : ∀ {t : List HE}, (∀ e ∈ t, ∀ S : St, S.nx = e.n → hasAll e.os S.h = true → HeapOk P σ e.f e.aa S e.v (mkSt e.os' e.n')) →
    ∀ f bs S v S', lookH t f bs S = some (v, S') → HeapOk P σ f bs S v S'
  | [], _, _, _, _, _, _, h => by cases h
  | e :: t, ht, f, bs, S, v, S', h => by
    unfold lookH at h
    have rest := lookH_ok (t := t) (fun e he => ht e (List.mem_cons_of_mem _ he)) f bs S v S'
    split at h
    · rename_i hf hn
      split at h
      · rename_i hb ha
        simp only [Option.some.injEq, Prod.mk.injEq] at h
        obtain ⟨rfl, rfl⟩ := h
        rw [Nat.eq_of_beq_eq_true hf, all2_spec hb]
        exact ht e (by simp) S (Nat.eq_of_beq_eq_true hn) ha
      · exact rest h
    · exact rest h

theorem ExOk.heap {P : Program} {σ : Sig} {ne mn : Nat} {gl : Nat → Nat → Option Value} {o : FuncId → List V → Option V} {oh : FuncId → List V → St → Option (V × St)} {t : List HE} (hz : ExOk P σ ⟨ne, mn, gl, o, oh⟩)
    (ht : ∀ e ∈ t, ∀ S : St, S.nx = e.n → hasAll e.os S.h = true → HeapOk P σ e.f e.aa S e.v (mkSt e.os' e.n')) : ExOk P σ ⟨ne, mn, gl, o, lookH t⟩ where
  gl := hz.gl
  ne := hz.ne
  mn := hz.mn
  orc := hz.orc
  orh := lookH_ok ht
end Go.E
