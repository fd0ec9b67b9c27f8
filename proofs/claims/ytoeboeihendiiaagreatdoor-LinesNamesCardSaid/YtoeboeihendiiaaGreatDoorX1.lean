import Derived.WalkKit
import Derived.Wp
import Derived.OrdersIn
import Derived.TacticsIn
import Derived.RangeFuncIn
import Derived.RangeFuncLeaves
set_option linter.all false
namespace Go.X

/-- owned blocks -/
abbrev Hp := List (Nat × Obj)

structure Sig where
  tape : Nat → Question → Nat
  os : Os
  output : Array (Nat × ByteArray)
  ro : Nat → Option Obj

structure Own (σ : Sig) (w : World) (L : Hp) : Prop where
  nodup : (L.map (·.1)).Nodup
  mem : ∀ b o, (b, o) ∈ L → w.heap[b]? = some o
  ro : ∀ b o, σ.ro b = some o → w.heap[b]? = some o
  apart : ∀ b o, (b, o) ∈ L → σ.ro b = none
  tape : w.tape = σ.tape
  os : w.os = σ.os
  output : w.output = σ.output

/-- block b holds o: read-only, or owned -/
def At (σ : Sig) (L : Hp) (b : Nat) (o : Obj) : Prop := σ.ro b = some o ∨ (b, o) ∈ L

def Rd (σ : Sig) (L : Hp) (a : Addr) (v : Value) : Prop :=
  a.spot = none ∧ ∃ c e fz, At σ L a.block (.cells c e fz) ∧ c[a.off]? = some v

/-- L' is L with o' in o's place -/
def Rep (L : Hp) (b : Nat) (o o' : Obj) (L' : Hp) : Prop := ∃ A B, L = A ++ (b, o) :: B ∧ L' = A ++ (b, o') :: B

def Wr (L : Hp) (a : Addr) (v : Value) (L' : Hp) : Prop :=
  a.spot = none ∧ ∃ c e fz, a.off < c.size ∧ (decide (fz.1 ≤ a.off) && decide (a.off < fz.2)) = false ∧
    Rep L a.block (.cells c e fz) (.cells (c.setIfInBounds a.off v) e fz) L'

def frz (off n : Nat) : Nat × Nat → Nat × Nat := fun (lo, hi) => if lo == hi then (off, off + n) else (min lo off, max hi (off + n))

def shapeOf : Obj → Option (TypeId × Nat)
  | .cells c e _ => some (e, c.size)
  | _ => none

def frozenOf (off : Nat) : Obj → Bool
  | .cells _ _ (lo, hi) => lo ≤ off && off < hi
  | _ => false

def notCells : Obj → Prop
  | .cells .. => False
  | _ => True

def xwp (P : Program) (σ : Sig) {α : Type} : Sem α → (α → Hp → Prop) → Hp → Prop
  | .pure a, Q, L => Q a L
  | .load _ a k, Q, L => ∃ v, Rd σ L a v ∧ xwp P σ (k v) Q L
  | .store _ a v k, Q, L => v.oneCell = true ∧ ∃ L', Wr L a v L' ∧ xwp P σ k Q L'
  | .new o k, Q, L => ∀ b, xwp P σ (k b) Q ((b, o) :: L)
  | .shape r k, Q, L => ∃ o, At σ L r o ∧ xwp P σ (k (shapeOf o)) Q L
  | .freeze a n k, Q, L => n ≠ 0 ∧ ∃ c e fz L', Rep L a.block (.cells c e fz) (.cells c e (frz a.off n fz)) L' ∧ xwp P σ k Q L'
  | .frozen a k, Q, L => ∃ o, At σ L a.block o ∧ xwp P σ (k (frozenOf a.off o)) Q L
  | .getObj r k, Q, L => ∃ o, At σ L r o ∧ notCells o ∧ xwp P σ (k o) Q L
  | .setObj r o k, Q, L => ∃ o' L', Rep L r o' o L' ∧ notCells o' ∧ xwp P σ k Q L'
  | .choose q k, Q, L => if q.forced then xwp P σ (k 0) Q L else ∀ t, xwp P σ (k (q.cut t)) Q L
  | .sys _ _, _, _ => False
  | .program k, Q, L => xwp P σ (k P) Q L
  | .mark _ k, Q, L => xwp P σ k Q L
  | .halt _, _, _ => False

section
variable {P : Program} {σ : Sig} {w : World} {L L' F : Hp}

theorem Own.at (h : Own σ w L) {b : Nat} {o : Obj} (ha : At σ L b o) : w.heap[b]? = some o := by
  rcases ha with ha | ha
  · exact h.ro _ _ ha
  · exact h.mem _ _ ha

theorem At.mono {b : Nat} {o : Obj} (h : At σ L b o) : At σ (L ++ F) b o := h.imp id fun h => List.mem_append_left _ h

theorem Own.rd (h : Own σ w L) {a : Addr} {v : Value} (hr : Rd σ L a v) : w.cell? a = some v := by
  obtain ⟨hs, c, e, fz, ha, hc⟩ := hr
  have := h.at ha
  simp [World.cell?, this, hs, hc]

theorem Own.shape (h : Own σ w L) {b : Nat} {o : Obj} (ha : At σ L b o) : w.shape? b = shapeOf o := by
  have := h.at ha
  cases o <;> simp [World.shape?, this, shapeOf]

theorem Own.frozen (h : Own σ w L) {a : Addr} {o : Obj} (ha : At σ L a.block o) : w.frozen? a = frozenOf a.off o := by
  have := h.at ha
  cases o <;> simp [World.frozen?, this, frozenOf]

/-- any change of one owned block -/
theorem Own.rep {b : Nat} {o o' : Obj} (h : Own σ w L) (hr : Rep L b o o' L') {w' : World}
    (hw : w'.heap = w.heap.setIfInBounds b o') (ht : w'.tape = w.tape) (ho : w'.os = w.os) (hp : w'.output = w.output) : Own σ w' L' := by
  obtain ⟨A, B, rfl, rfl⟩ := hr
  have hb := h.mem b o (by simp)
  have hlt : b < w.heap.size := (Array.getElem?_eq_some_iff.1 hb).1
  have hn := h.nodup
  simp only [List.map_append, List.map_cons] at hn
  have hb' : σ.ro b = none := h.apart b o (by simp)
  have hne : ∀ c x, (c, x) ∈ A ++ B → c ≠ b := by
    rw [List.nodup_append] at hn
    obtain ⟨_, h2, h3⟩ := hn
    rw [List.nodup_cons] at h2
    intro c x hm heq
    subst heq
    rcases List.mem_append.1 hm with hm | hm
    · exact h3 c (List.mem_map.2 ⟨_, hm, rfl⟩) c (by simp) rfl
    · exact h2.1 (List.mem_map.2 ⟨_, hm, rfl⟩)
  refine ⟨by simpa using h.nodup, ?_, ?_, ?_, ht.trans h.tape, ho.trans h.os, hp.trans h.output⟩
  · intro c x hm
    rw [hw]
    by_cases hc : c = b
    · subst hc
      have hx : x = o' := by
        simp only [List.mem_append, List.mem_cons, Prod.mk.injEq, true_and] at hm
        rcases hm with hm | hm | hm
        · exact absurd rfl (hne c x (List.mem_append_left _ hm))
        · exact hm
        · exact absurd rfl (hne c x (List.mem_append_right _ hm))
      subst hx
      simp [hlt]
    · rw [Array.getElem?_setIfInBounds_ne (Ne.symm hc)]
      refine h.mem c x ?_
      simp only [List.mem_append, List.mem_cons, Prod.mk.injEq] at hm ⊢
      rcases hm with hm | hm | hm
      · exact .inl hm
      · exact absurd hm.1 hc
      · exact .inr (.inr hm)
  · intro c x hx
    rw [hw, Array.getElem?_setIfInBounds_ne (fun hcb => by subst hcb; rw [hb'] at hx; cases hx)]
    exact h.ro c x hx
  · intro c x hm
    simp only [List.mem_append, List.mem_cons, Prod.mk.injEq] at hm
    rcases hm with hm | hm | hm
    · exact h.apart c x (by simp [hm])
    · rw [hm.1]; exact hb'
    · exact h.apart c x (by simp [hm])

theorem Rep.mono {b : Nat} {o o' : Obj} (hr : Rep L b o o' L') : Rep (L ++ F) b o o' (L' ++ F) := by
  obtain ⟨A, B, rfl, rfl⟩ := hr
  exact ⟨A, B ++ F, by simp, by simp⟩

theorem setCell_heap {b off : Nat} {c : Array Value} {e : TypeId} {fz : Nat × Nat} (v : Value) (h : w.heap[b]? = some (.cells c e fz)) :
    (w.setCell ⟨b, off, none⟩ v).heap = w.heap.setIfInBounds b (.cells (c.setIfInBounds off v) e fz) := by
  obtain ⟨hlt, hg⟩ := Array.getElem?_eq_some_iff.1 h
  apply Array.ext
  · simp [World.setCell]
  · intro i h1 h2
    simp only [World.setCell, Array.getElem_modify]
    by_cases hi : i = b
    · subst hi
      simp [hg]
    · rw [Array.getElem_setIfInBounds_ne (by simpa [World.setCell] using h1) (Ne.symm hi)]
      simp [Ne.symm hi]

theorem Own.wr (h : Own σ w L) {a : Addr} {v : Value} (hr : Wr L a v L') :
    Own σ (w.setCell a v) L' ∧ w.frozen? a = false ∧ ∃ u, w.cell? a = some u := by
  obtain ⟨b, off, spot⟩ := a
  obtain ⟨hs, c, e, fz, hlt, hfz, hr⟩ := hr
  subst hs
  obtain ⟨A, B, hA, hB⟩ := id hr
  have hb := h.mem b (.cells c e fz) (by simp [hA])
  refine ⟨h.rep hr (setCell_heap v hb) rfl rfl rfl, ?_, c[off], ?_⟩
  · simp only [World.frozen?, hb]
    exact hfz
  simp [World.cell?, hb, hlt]

theorem Own.alloc (h : Own σ w L) (o : Obj) : Own σ { w with heap := w.heap.push o } ((w.heap.size, o) :: L) := by
  have old : ∀ b x, w.heap[b]? = some x → b < w.heap.size := fun b x hx => (Array.getElem?_eq_some_iff.1 hx).1
  refine ⟨?_, ?_, ?_, ?_, h.tape, h.os, h.output⟩
  · simp only [List.map_cons, List.nodup_cons]
    refine ⟨fun hm => ?_, h.nodup⟩
    obtain ⟨⟨b, x⟩, hm, hb⟩ := List.mem_map.1 hm
    have := old _ _ (h.mem _ _ hm)
    simp at hb
    omega
  · intro b x hm
    simp only [List.mem_cons, Prod.mk.injEq] at hm
    rcases hm with ⟨rfl, rfl⟩ | hm
    · simp
    · have h1 := h.mem _ _ hm
      have h2 := old _ _ h1
      simp only [Array.getElem?_push]
      rw [if_neg (by omega)]
      exact h1
  · intro b x hx
    have h1 := h.ro _ _ hx
    have h2 := old _ _ h1
    simp only [Array.getElem?_push]
    rw [if_neg (by omega)]
    exact h1
  · intro b x hm
    simp only [List.mem_cons, Prod.mk.injEq] at hm
    rcases hm with ⟨rfl, rfl⟩ | hm
    · cases hro : σ.ro w.heap.size with
      | none => rfl
      | some y => have := old _ _ (h.ro _ _ hro); omega
    · exact h.apart _ _ hm

theorem Own.drew (h : Own σ w L) (n : Nat) : Own σ { w with drawn := n } L := ⟨h.nodup, h.mem, h.ro, h.apart, h.tape, h.os, h.output⟩

theorem xwp_sound {α : Type} (s : Sem α) : ∀ {Q : α → Hp → Prop} {L : Hp} {w : World}, xwp P σ s Q L → Own σ w (L ++ F) →
    s.wp P (fun a w' => ∃ L', Q a L' ∧ Own σ w' (L' ++ F)) (fun _ _ => False) w := by
  induction s with
  | pure a => intro Q L w h ho; exact ⟨L, h, ho⟩
  | load m a k ih =>
    intro Q L w h ho
    obtain ⟨v, hr, h⟩ := h
    have hr' : Rd σ (L ++ F) a v := let ⟨h1, c, e, fz, ha, hc⟩ := hr; ⟨h1, c, e, fz, ha.mono, hc⟩
    simp only [Sem.wp, ho.rd hr']
    exact ih v h ho
  | store m a v k ih =>
    intro Q L w h ho
    obtain ⟨hv, L', hw, h⟩ := h
    have hw' : Wr (L ++ F) a v (L' ++ F) := let ⟨h1, c, e, fz, hl, hf, hr⟩ := hw; ⟨h1, c, e, fz, hl, hf, hr.mono⟩
    obtain ⟨h1, h2, u, h3⟩ := ho.wr hw'
    simp only [Sem.wp, hv, if_true, h3, h2, Bool.false_eq_true, if_false]
    exact ih h h1
  | new o k ih =>
    intro Q L w h ho
    simp only [Sem.wp]
    exact ih _ (h w.heap.size) (ho.alloc o)
  | shape r k ih =>
    intro Q L w h ho
    obtain ⟨o, ha, h⟩ := h
    simp only [Sem.wp, ho.shape ha.mono]
    exact ih _ h ho
  | freeze a n k ih =>
    intro Q L w h ho
    obtain ⟨hn, c, e, fz, L', hr, h⟩ := h
    have hr' := hr.mono (F := F)
    have hb : w.heap[a.block]? = some (.cells c e fz) := by obtain ⟨A, B, hA, hB⟩ := hr'; exact ho.mem _ _ (by simp [hA])
    simp only [Sem.wp]
    refine ih h (ho.rep hr' (w' := w.freeze a n) ?_ ?_ ?_ ?_)
    · simp only [World.freeze, if_neg hn]
      obtain ⟨hlt, hg⟩ := Array.getElem?_eq_some_iff.1 hb
      apply Array.ext
      · simp
      · intro i h1 h2
        simp only [Array.getElem_modify]
        by_cases hi : i = a.block
        · subst hi
          simp [hg, frz]
        · rw [Array.getElem_setIfInBounds_ne (by simpa using h1) (Ne.symm hi)]
          simp [Ne.symm hi]
    all_goals (simp only [World.freeze, if_neg hn])
  | frozen a k ih =>
    intro Q L w h ho
    obtain ⟨o, ha, h⟩ := h
    simp only [Sem.wp, ho.frozen ha.mono]
    exact ih _ h ho
  | getObj r k ih =>
    intro Q L w h ho
    obtain ⟨o, ha, hn, h⟩ := h
    have := ho.at ha.mono
    simp only [Sem.wp, this]
    cases o <;> first | exact hn.elim | exact ih _ h ho
  | setObj r o k ih =>
    intro Q L w h ho
    obtain ⟨o', L', hr, hn, h⟩ := h
    have hr' : Rep (L ++ F) r o' o (L' ++ F) := hr.mono
    have hb : w.heap[r]? = some o' := by obtain ⟨A, B, hA, hB⟩ := hr'; exact ho.mem _ _ (by simp [hA])
    simp only [Sem.wp, hb]
    have := ih h (ho.rep hr' (w' := { w with heap := w.heap.setIfInBounds r o }) rfl rfl rfl rfl)
    cases o' <;> first | exact hn.elim | exact this
  | choose q k ih =>
    intro Q L w h ho
    simp only [xwp] at h
    simp only [Sem.wp]
    split
    · rename_i hq; rw [if_pos hq] at h; exact ih _ h ho
    · rename_i hq; rw [if_neg hq] at h; exact ih _ (h _) (ho.drew _)
  | sys c k ih => intro Q L w h ho; exact h.elim
  | program k ih => intro Q L w h ho; exact ih _ h ho
  | mark m k ih => intro Q L w h ho; exact ih h ho
  | halt h => intro Q L w h ho; exact h.elim

theorem xwp_mono {α : Type} (s : Sem α) : ∀ {Q Q' : α → Hp → Prop} {L : Hp}, (∀ a L, Q a L → Q' a L) → xwp P σ s Q L → xwp P σ s Q' L := by
  induction s with
  | pure a => intro Q Q' L hq h; exact hq _ _ h
  | load m a k ih => intro Q Q' L hq ⟨v, hr, h⟩; exact ⟨v, hr, ih _ hq h⟩
  | store m a v k ih => intro Q Q' L hq ⟨hv, L', hr, h⟩; exact ⟨hv, L', hr, ih hq h⟩
  | new o k ih => intro Q Q' L hq h b; exact ih _ hq (h b)
  | shape r k ih => intro Q Q' L hq ⟨v, hr, h⟩; exact ⟨v, hr, ih _ hq h⟩
  | freeze a n k ih => intro Q Q' L hq ⟨hn, c, e, fz, L', hr, h⟩; exact ⟨hn, c, e, fz, L', hr, ih hq h⟩
  | frozen a k ih => intro Q Q' L hq ⟨v, hr, h⟩; exact ⟨v, hr, ih _ hq h⟩
  | getObj r k ih => intro Q Q' L hq ⟨v, hr, hn, h⟩; exact ⟨v, hr, hn, ih _ hq h⟩
  | setObj r o k ih => intro Q Q' L hq ⟨v, L', hr, hn, h⟩; exact ⟨v, L', hr, hn, ih hq h⟩
  | choose q k ih =>
    intro Q Q' L hq h
    simp only [xwp] at h ⊢
    split
    · rename_i hf; rw [if_pos hf] at h; exact ih _ hq h
    · rename_i hf; rw [if_neg hf] at h; exact fun t => ih _ hq (h t)
  | sys c k ih => intro Q Q' L hq h; exact h
  | program k ih => intro Q Q' L hq h; exact ih _ hq h
  | mark m k ih => intro Q Q' L hq h; exact ih hq h
  | halt h => intro Q Q' L hq h; exact h

theorem xwp_bind {α β : Type} (s : Sem α) (f : α → Sem β) : ∀ {Q : β → Hp → Prop} {L : Hp},
    xwp P σ (s >>= f) Q L = xwp P σ s (fun a L => xwp P σ (f a) Q L) L := by
  show ∀ {Q : β → Hp → Prop} {L : Hp}, xwp P σ (s.bind f) Q L = xwp P σ s (fun a L => xwp P σ (f a) Q L) L
  induction s with
  | pure a => intro Q L; rfl
  | load m a k ih => intro Q L; simp only [Sem.bind, xwp, ih]
  | store m a v k ih => intro Q L; simp only [Sem.bind, xwp, ih]
  | new o k ih => intro Q L; simp only [Sem.bind, xwp, ih]
  | shape r k ih => intro Q L; simp only [Sem.bind, xwp, ih]
  | freeze a n k ih => intro Q L; simp only [Sem.bind, xwp, ih]
  | frozen a k ih => intro Q L; simp only [Sem.bind, xwp, ih]
  | getObj r k ih => intro Q L; simp only [Sem.bind, xwp, ih]
  | setObj r o k ih => intro Q L; simp only [Sem.bind, xwp, ih]
  | choose q k ih => intro Q L; simp only [Sem.bind, xwp, ih]
  | sys c k ih => intro Q L; simp only [Sem.bind, xwp]
  | program k ih => intro Q L; simp only [Sem.bind, xwp, ih]
  | mark m k ih => intro Q L; simp only [Sem.bind, xwp, ih]
  | halt h => intro Q L; simp only [Sem.bind, xwp]
end

/-- a contract -/
def Spec (P : Program) (σ : Sig) (f : FuncId) (args : Array Value) (K : Value → Hp → Prop) (L : Hp) : Prop :=
  ∀ w F, Own σ w (L ++ F) → Calls P f args w fun e w' => ∃ v L', e = .returned v ∧ K v L' ∧ Own σ w' (L' ++ F)

theorem Spec.mono {P : Program} {σ : Sig} {f : FuncId} {args : Array Value} {K K' : Value → Hp → Prop} {L : Hp}
    (h : Spec P σ f args K L) (hk : ∀ v L, K v L → K' v L) : Spec P σ f args K' L :=
  fun w F ho => (h w F ho).mono fun _ _ ⟨v, L', he, hK, ho'⟩ => ⟨v, L', he, hk _ _ hK, ho'⟩

theorem Own.perm {σ : Sig} {w : World} {L L' : Hp} (h : Own σ w L) (hp : L.Perm L') : Own σ w L' :=
  ⟨(hp.map _).nodup_iff.1 h.nodup, fun b o hm => h.mem b o (hp.mem_iff.2 hm), h.ro, fun b o hm => h.apart b o (hp.mem_iff.2 hm), h.tape, h.os, h.output⟩

theorem Own.sub {σ : Sig} {w : World} {L L' : Hp} (h : Own σ w (L ++ L')) : Own σ w L' :=
  ⟨by have := h.nodup; rw [List.map_append, List.nodup_append] at this; exact this.2.1,
   fun b o hm => h.mem b o (by simp [hm]), h.ro, fun b o hm => h.apart b o (by simp [hm]), h.tape, h.os, h.output⟩

/-- the rule of the call: a contract over a part A of what is owned; R is the rest -/
theorem Spec.use {P : Program} {σ : Sig} {f : FuncId} {args : Array Value} {K K' : Value → Hp → Prop} {L A : Hp} (R : Hp)
    (h : Spec P σ f args K A) (hp : L.Perm (A ++ R)) (hk : ∀ v A', K v A' → K' v (A' ++ R)) : Spec P σ f args K' L :=
  fun w F ho => (h w (R ++ F) (ho.perm (by
    rw [← List.append_assoc]; exact hp.append_right F))).mono fun _ _ ⟨v, L', he, hK, ho'⟩ => ⟨v, L' ++ R, he, hk _ _ hK, by simpa using ho'⟩

/-- any function, in or outside a round -/
def Fx (r : Option Nat) : Fence := { Fence.wide with round := r }

/-- a round of a range over a function -/
def SpecR (P : Program) (σ : Sig) (l : Nat) (f : FuncId) (tmps : Array Value) (assign body : Code) (K : Value → Hp → Prop) (L : Hp) : Prop :=
  ∀ w F, Own σ w (L ++ F) → RoundIn Fence.wide 0 P l f tmps assign body w fun e w' => ∃ v L', e = .returned v ∧ K v L' ∧ Own σ w' (L' ++ F)

theorem SpecR.mono {P : Program} {σ : Sig} {l : Nat} {f : FuncId} {tmps : Array Value} {assign body : Code} {K K' : Value → Hp → Prop} {L : Hp}
    (h : SpecR P σ l f tmps assign body K L) (hk : ∀ v L, K v L → K' v L) : SpecR P σ l f tmps assign body K' L :=
  fun w F ho => (h w F ho).mono fun _ _ ⟨v, L', he, hK, ho'⟩ => ⟨v, L', he, hk _ _ hK, ho'⟩

theorem SpecR.use {P : Program} {σ : Sig} {l : Nat} {f : FuncId} {tmps : Array Value} {assign body : Code} {K K' : Value → Hp → Prop} {L A : Hp} (R : Hp)
    (h : SpecR P σ l f tmps assign body K A) (hp : L.Perm (A ++ R)) (hk : ∀ v A', K v A' → K' v (A' ++ R)) : SpecR P σ l f tmps assign body K' L :=
  fun w F ho => (h w (R ++ F) (ho.perm (by
    rw [← List.append_assoc]; exact hp.append_right F))).mono fun _ _ ⟨v, L', he, hK, ho'⟩ => ⟨v, L' ++ R, he, hk _ _ hK, by simpa using ho'⟩

def XNext (P : Program) (σ : Sig) (o : Oper) (a : Act) (K : Act → Hp → Prop) : Next → Hp → Prop
  | .value v, L => K (a.put o.dst v) L
  | .skip, L => K (a.put o.dst undef) L
  | .enter f args, L => Spec P σ f args (fun v L' => K (a.put o.dst v) L') L
  | .round l f tmps assign body, L => SpecR P σ l f tmps assign body (fun v L' => K (a.put o.dst v) L') L
  | _, _ => False

/-- K of a part of what is owned -/
def Wk (K : Hp → Prop) (L : Hp) : Prop := ∃ L' R, L.Perm (L' ++ R) ∧ K L'

theorem Wk.intro {K : Hp → Prop} {L : Hp} (h : K L) : Wk K L := ⟨L, [], by simp, h⟩
theorem Wk.mono {K K' : Hp → Prop} {L : Hp} (hk : ∀ L, K L → K' L) (h : Wk K L) : Wk K' L := let ⟨L', R, hp, h⟩ := h; ⟨L', R, hp, hk _ h⟩
theorem Wk.wk {K : Hp → Prop} {L L' : Hp} (R : Hp) (hp : L.Perm (L' ++ R)) (h : Wk K L') : Wk K L :=
  let ⟨L1, R1, hp1, h⟩ := h; ⟨L1, R1 ++ R, hp.trans (by rw [← List.append_assoc]; exact hp1.append_right R), h⟩

def XOp (P : Program) (σ : Sig) (o : Oper) (a : Act) (K : Act → Hp → Prop) (L : Hp) : Prop :=
  (∀ c, o.op ≠ .defer c) ∧ xwp P σ (execOp a.eval o) (XNext P σ o a fun a L => Wk (K a) L) L

theorem Own.wk {σ : Sig} {w : World} {L L' R F : Hp} (h : Own σ w (L ++ F)) (hp : L.Perm (L' ++ R)) : Own σ w (L' ++ F) := by
  have : (L ++ F).Perm (R ++ (L' ++ F)) := (hp.append_right F).trans (by
    rw [List.append_assoc]
    exact (List.perm_append_comm_assoc L' R F))
  exact (h.perm this).sub

def lift (σ : Sig) (F : Hp) (K : Act → Hp → Prop) : Act → World → Prop := fun a w => ∃ L, K a L ∧ Own σ w (L ++ F)
def liftQ (σ : Sig) (F : Hp) (Q : Exit → Act → Hp → Prop) : Exit → Act → World → Prop := fun e a w => ∃ L, Q e a L ∧ Own σ w (L ++ F)

section
variable {P : Program} {σ : Sig} {w : World} {L F : Hp} {o : Oper} {a : Act} {r : Option Nat}

theorem callsIn_Fx {n : Nat} {f : FuncId} {args : Array Value} {R : Ending → World → Prop} (h : Calls P f args w R) : CallsIn (Fx r) n P f args w R :=
  (callsIn_wide (n := n)).2 h
theorem roundIn_Fx {n : Nat} {l : Nat} {f : FuncId} {tmps : Array Value} {assign body : Code} {R : Ending → World → Prop} (h : RoundIn Fence.wide n P l f tmps assign body w R) : RoundIn (Fx r) n P l f tmps assign body w R := h

theorem XOp.sound {K : Act → Hp → Prop} {Q : Exit → Act → World → Prop} (h : XOp P σ o a K L) (ho : Own σ w (L ++ F)) :
    o.wpIn (Fx r) 0 P a w (lift σ F K) Q := by
  obtain ⟨hd, h⟩ := h
  have := (Sem.wp_iff_run P _ _ _ w).1 (xwp_sound (execOp a.eval o) h ho)
  refine ⟨fun _ _ => trivial, ?_⟩
  rw [Oper.semAt_eq _ _ _ hd]
  generalize (execOp a.eval o).run P w = res at *
  cases res with
  | halt x w' => exact this.elim
  | ok n w' =>
    obtain ⟨L', hn, ho'⟩ := this
    cases n <;> simp only [XNext] at hn <;> simp only [Oper.uponIn]
    · obtain ⟨L1, R, hp, hn⟩ := hn; exact ⟨L1, hn, ho'.wk hp⟩
    · obtain ⟨L1, R, hp, hn⟩ := hn; exact ⟨L1, hn, ho'.wk hp⟩
    · exact ⟨(fun h => by cases h), callsIn_Fx ((hn w' F ho').mono fun e w'' ⟨v, L'', he, ⟨L1, R, hp, hK⟩, ho''⟩ => by subst he; exact ⟨L1, hK, ho''.wk hp⟩)⟩
    · exact ⟨(fun h => by cases h), roundIn_Fx ((hn w' F ho').mono fun e w'' ⟨v, L'', he, ⟨L1, R, hp, hK⟩, ho''⟩ => by subst he; exact ⟨L1, hK, ho''.wk hp⟩)⟩

/-- the operations of a region in the text's order -/
def XList (P : Program) (σ : Sig) (ops : Array Oper) (Q : Act → Hp → Prop) : List Oper → Act → Hp → Prop
  | [], a, L => Q a L
  | o :: rest, a, L =>
    if Region.wanted o (yielded ops a.tmps) then XOp P σ o a (XList P σ ops Q rest) L else XList P σ ops Q rest (a.put o.dst undef) L

theorem XList.sound {ops : Array Oper} {Q : Act → Hp → Prop} {Q' : Exit → Act → World → Prop} (hQ : ∀ a w, lift σ F Q a w → Q' .normal a w) :
    ∀ (l : List Oper) (a : Act) (L : Hp) (w : World), XList P σ ops Q l a L → Own σ w (L ++ F) → wpListIn (Fx r) 0 P ops Q' l a w
  | [], a, L, w, h, ho => hQ a w ⟨L, h, ho⟩
  | o :: rest, a, L, w, h, ho => by
    unfold XList at h
    unfold wpListIn
    split
    · rename_i hw
      rw [if_pos hw] at h
      refine Oper.wpIn_mono ?_ (XOp.sound h ho)
      rintro a' w' ⟨L', h', ho'⟩
      exact XList.sound hQ rest a' L' w' h' ho'
    · rename_i hw
      rw [if_neg hw] at h
      exact ⟨fun _ _ => trivial, XList.sound hQ rest _ L w h ho⟩

/-- code from a part of memory that is owned -/
def XC (P : Program) (σ : Sig) (r : Option Nat) (c : Code) (Q : Exit → Act → Hp → Prop) (a : Act) (L : Hp) : Prop :=
  ∀ w F, Own σ w (L ++ F) → c.wpIn (Fx r) 0 P (liftQ σ F Q) a w

variable {Q : Exit → Act → Hp → Prop}

theorem XC.mono {c : Code} {Q' : Exit → Act → Hp → Prop} (h : XC P σ r c Q a L) (hq : ∀ e a L, Q e a L → Q' e a L) : XC P σ r c Q' a L :=
  fun w F ho => wpIn_mono (h w F ho) fun _ _ _ ⟨L', hq', ho'⟩ => ⟨L', hq _ _ _ hq', ho'⟩

theorem XC.region {id : Nat} {ops : List Oper} (h : XList P σ ops.toArray (Q .normal) ops a L) : XC P σ r (.region id ops.toArray false) Q a L :=
  fun _ F ho => wpIn_region_lit (XList.sound (F := F) (fun _ _ ⟨L', h', ho'⟩ => ⟨L', h', ho'⟩) ops a L _ h ho)

def thenX (K : Act → Hp → Prop) (Q : Exit → Act → Hp → Prop) : Exit → Act → Hp → Prop
  | .normal, a, L => K a L
  | e, a, L => Q e a L

theorem XC.seq {x y : Code} (h : ∀ K : Act → Hp → Prop, (∀ a L, XC P σ r y Q a L → K a L) → XC P σ r x (thenX K Q) a L) : XC P σ r (x.seq y) Q a L := by
  intro w F ho
  refine wpIn_seq (wpIn_mono (h _ (fun _ _ h => h) w F ho) ?_)
  rintro e a' w' ⟨L', hq, ho'⟩
  cases e with
  | normal => exact hq w' F ho'
  | _ => exact ⟨L', hq, ho'⟩

theorem XC.cond {c : Operand} {x y : Code} {t : Bool} (hc : a.eval c = .bool t) (ht : t = true → XC P σ r x Q a L) (hf : t = false → XC P σ r y Q a L) :
    XC P σ r (.cond c x y) Q a L :=
  fun w F ho => wpIn_cond_split hc (fun h => ht h w F ho) (fun h => hf h w F ho)

def inBlockX (id : Nat) (Q : Exit → Act → Hp → Prop) : Exit → Act → Hp → Prop
  | .exit id', a, L => if id' = id then Q .normal a L else Q (.exit id') a L
  | e, a, L => Q e a L

theorem XC.block {id : Nat} {c : Code} (h : XC P σ r c (inBlockX id Q) a L) : XC P σ r (.block id c) Q a L := by
  intro w F ho
  refine wpIn_block (wpIn_mono (h w F ho) ?_)
  rintro e a' w' ⟨L', hq, ho'⟩
  cases e with
  | exit id' =>
    simp only [inBlockX] at hq
    simp only [Exit.inBlock]
    split
    · rename_i hi; rw [if_pos hi] at hq; exact ⟨L', hq, ho'⟩
    · rename_i hi; rw [if_neg hi] at hq; exact ⟨L', hq, ho'⟩
  | _ => exact ⟨L', hq, ho'⟩

theorem XC.skip (h : Q .normal a L) : XC P σ r .skip Q a L := fun _ _ ho => wpIn_skip ⟨L, h, ho⟩
theorem XC.ret (h : Q .ret a L) : XC P σ r .ret Q a L := fun _ _ ho => wpIn_ret ⟨L, h, ho⟩
theorem XC.exit {id : Nat} (h : Q (.exit id) a L) : XC P σ r (.exit id) Q a L := fun _ _ ho => wpIn_exit ⟨L, h, ho⟩
theorem XC.label {l : Nat} (h : Q .normal a L) : XC P σ r (.label l) Q a L := fun _ _ ho => wpIn_label ⟨L, h, ho⟩
theorem XC.goto {l : Nat} (h : Q (.goto l) a L) : XC P σ r (.goto l) Q a L := fun _ _ ho => wpIn_goto ⟨L, h, ho⟩

theorem XC.loop {c : Code} (I : Nat → Act → Hp → Prop) (n : Nat) (h₀ : I n a L)
    (round : ∀ n a L, I n a L → XC P σ r c (thenX (fun a' L' => ∃ m, m < n ∧ I m a' L') Q) a L) : XC P σ r (.loop c) Q a L := by
  intro w F ho b k cs hro hb hr
  have key : ∀ n a L w, I n a L → Own σ w (L ++ F) →
      ∃ e a' w', liftQ σ F Q e a' w' ∧ ArrivesIn (Machine.fenced P (Fx r)) P (lone (b.atR a (.code c :: .inLoop c :: k)) cs w) b k cs e a' w' := by
    intro n
    induction n using Nat.strongRecOn with
    | _ n ih =>
      intro a L w hI ho
      obtain ⟨e, a₁, w₁, ⟨L₁, hq, ho₁⟩, harr⟩ := round n a L hI w F ho b (.inLoop c :: k) cs hro hb hr
      cases e with
      | normal =>
        obtain ⟨m, hm, hI₁⟩ := hq
        obtain ⟨e₂, a₂, w₂, hq₂, harr₂⟩ := ih m hm a₁ L₁ w₁ hI₁ ho₁
        exact ⟨e₂, a₂, w₂, hq₂, .of_steps (StepsIn.trans harr (.one (fenced_calm hb hr rfl) stepR_inLoop)) harr₂⟩
      | exit id => exact ⟨_, a₁, w₁, ⟨L₁, hq, ho₁⟩, .pass (x := .inLoop c) rfl (fun _ _ => .inl (by simp)) harr⟩
      | goto l => exact ⟨_, a₁, w₁, ⟨L₁, hq, ho₁⟩, .pass (x := .inLoop c) rfl (fun _ _ => .inl (by simp)) harr⟩
      | ret => exact ⟨_, a₁, w₁, ⟨L₁, hq, ho₁⟩, .pass (x := .inLoop c) rfl (fun _ _ => .inl (by simp)) harr⟩
      | panic ch => exact ⟨_, a₁, w₁, ⟨L₁, hq, ho₁⟩, .pass (x := .inLoop c) rfl (fun _ _ => .inl (by simp)) harr⟩
      | outgrown => exact ⟨_, a₁, w₁, ⟨L₁, hq, ho₁⟩, .pass (x := .inLoop c) rfl (fun _ _ => .inl (by simp)) harr⟩
  obtain ⟨e, a', w', hq, harr⟩ := key n a L w h₀ ho
  exact ⟨e, a', w', hq, .of_steps (.one (fenced_calm hb hr rfl) stepR_loop) harr⟩
end
end Go.X
