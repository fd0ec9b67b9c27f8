import Derived.Test.YtoeboeihendiiaaGreatDoorE6
set_option linter.all false
namespace Go.E
open Go.X
variable {P : Program} {σ : Sig} {N : Nm} {E : T V} {ρ : X.Env} {L : Hp} {Z : Ex}

inductive F2 {α β : Type} (R : α → β → Prop) : List α → List β → Prop
  | nil : F2 R [] []
  | cons {a b l m} (h : R a b) (t : F2 R l m) : F2 R (a :: l) (b :: m)

theorem F2.imp {α β : Type} {R R' : α → β → Prop} (h : ∀ a b, R a b → R' a b) {l : List α} {m : List β} (f : F2 R l m) : F2 R' l m := by
  induction f with
  | nil => exact .nil
  | cons h' t ih => exact .cons (h _ _ h') ih

theorem F2.app {α β : Type} {R : α → β → Prop} {l l' : List α} {m m' : List β} (f : F2 R l m) (g : F2 R l' m') : F2 R (l ++ l') (m ++ m') := by
  induction f with
  | nil => exact g
  | cons h t ih => exact .cons h ih

/-- an element, its partner, what is before and behind -/
theorem F2.cut {α β : Type} {R : α → β → Prop} {l : List α} {m : List β} (f : F2 R l m) {a : α} (ha : a ∈ l) :
    ∃ l1 l2 m1 b m2, l = l1 ++ a :: l2 ∧ m = m1 ++ b :: m2 ∧ R a b ∧ F2 R l1 m1 ∧ F2 R l2 m2 := by
  induction f with
  | nil => cases ha
  | @cons a' b l m h t ih =>
    by_cases he : a = a'
    · subst he; exact ⟨[], l, [], b, m, rfl, rfl, h, .nil, t⟩
    · have : a ∈ l := by
        rcases List.mem_cons.1 ha with h | h
        · exact absurd h he
        · exact h
      obtain ⟨l1, l2, m1, b', m2, rfl, rfl, h1, h2, h3⟩ := ih this
      exact ⟨a' :: l1, l2, b :: m1, b', m2, rfl, rfl, h1, .cons h h2, h3⟩

theorem F2.left {α β : Type} {R : α → β → Prop} {l : List α} {m : List β} (f : F2 R l m) {a : α} (ha : a ∈ l) : ∃ b, R a b := by
  obtain ⟨_, _, _, b, _, _, _, h, _⟩ := f.cut ha
  exact ⟨b, h⟩

/-- a block by name and the block -/
def ORelC (P : Program) (N : Nm) (c : Nat) (o : O) (o' : Obj) : Prop :=
  ∃ cs fz, o' = .cells cs o.e fz ∧ (∀ i v, o.cells.get i = some v → ∃ x, den N v = some x ∧ cs[i]? = some x) ∧ (∀ n, o.fz = some n → fz.1 = fz.2 ∨ fz.2 ≤ n) ∧
    (o.op = false → cs.size = o.size) ∧ (o.op = true → ∃ sz, szT P o.e = some sz ∧ 0 < sz ∧ o.size ≤ c * sz ∧ c * sz ≤ cs.size)

def EntR (N : Nm) (e : V × V × Nat) (x : MapEntry) : Prop := den N e.1 = some x.key ∧ den N e.2.1 = some x.val ∧ e.2.2 = x.born

theorem EntR.mono {M : Nm} (hx : Ext N M) {e : V × V × Nat} {x : MapEntry} (h : EntR N e x) : EntR M e x :=
  ⟨den_mono hx _ _ h.1, den_mono hx _ _ h.2.1, h.2.2⟩

def ORelK (N : Nm) (c : K) (o' : Obj) : Prop :=
  match c with
  | .map es ck => ∃ xs : List MapEntry, o' = .map xs.toArray ck ∧ F2 (EntR N) es xs
  | .loop st pe n E ps as bd => ∃ ρ fn D, ERel N E ρ ∧ o' = .loop { state := st, pending := pe, fn := fn, tmps := (actOf n [] ρ).tmps, params := ps, assign := as, body := bd, defers := D }

def ORel (P : Program) (N : Nm) (c : Nat) (o : O) (o' : Obj) : Prop :=
  match o.k with
  | none => ORelC P N c o o'
  | some q => ORelK N q o'

theorem ORelK.mono {M : Nm} (hx : Ext N M) {q : K} {o' : Obj} (h : ORelK N q o') : ORelK M q o' := by
  cases q with
  | map es ck => obtain ⟨xs, h1, h2⟩ := h; exact ⟨xs, h1, h2.imp fun _ _ h => h.mono hx⟩
  | loop st pe n E ps as bd => obtain ⟨ρ, fn, D, h1, h2⟩ := h; exact ⟨ρ, fn, D, fun t v hv => den_mono hx v _ (h1 t v hv), h2⟩

theorem ORel.mk {c : Nat} {q : K} {o' : Obj} (h : ORelK N q o') : ORel P N c (mkK q) o' := h

theorem ORelC.mono {M : Nm} (hx : Ext N M) {c : Nat} {o : O} {o' : Obj} (h : ORelC P N c o o') : ORelC P M c o o' := by
  obtain ⟨cs, fz, h1, h2, h3⟩ := h
  exact ⟨cs, fz, h1, fun i v hv => let ⟨x, hd, hc⟩ := h2 i v hv; ⟨x, den_mono hx v x hd, hc⟩, h3⟩

theorem ORel.mono {M : Nm} (hx : Ext N M) {c : Nat} {o : O} {o' : Obj} (h : ORel P N c o o') : ORel P M c o o' := by
  unfold ORel at *
  split
  · rename_i hk; rw [hk] at h; exact ORelC.mono hx h
  · rename_i q hk; rw [hk] at h; exact ORelK.mono hx h

theorem ORel.c {c : Nat} {o : O} {o' : Obj} (hk : o.k = none) (h : ORel P N c o o') : ORelC P N c o o' := by
  unfold ORel at h
  rw [hk] at h
  exact h
theorem ORelC.o {c : Nat} {o : O} {o' : Obj} (hk : o.k = none) (h : ORelC P N c o o') : ORel P N c o o' := by
  unfold ORel
  rw [hk]
  exact h

def PR (P : Program) (N : Nm) (p : Nat × O) (q : Nat × Obj) : Prop := ∃ c, N[p.1]? = some (q.1, c) ∧ ORel P N c p.2 q.2

theorem PR.mono {M : Nm} (hx : Ext N M) {p : Nat × O} {q : Nat × Obj} (h : PR P N p q) : PR P M p q :=
  let ⟨c, h1, h2⟩ := h; ⟨c, hx _ _ h1, h2.mono hx⟩


def HRel (P : Program) (N : Nm) (h : T (Option O)) (L : Hp) : Prop :=
  ∃ l : List (Nat × O), (∀ k o, h.get k = some (some o) → (k, o) ∈ l) ∧ (l.map (·.1)).Nodup ∧ F2 (PR P N) l L

def SRel (P : Program) (N : Nm) (S : St) (L : Hp) : Prop := N.length = S.nx ∧ HRel P N S.h L

/-- a call from a state that is known, to a state that is known -/
def HeapOk (P : Program) (σ : Sig) (f : FuncId) (args : List V) (S : St) (v : V) (S' : St) : Prop :=
  ∀ N xs L, SRel P N S L → dens N args = some xs → X.Spec P σ f xs.toArray (fun y L' => ∃ M, Ext N M ∧ den M v = some y ∧ SRel P M S' L') L
end Go.E
