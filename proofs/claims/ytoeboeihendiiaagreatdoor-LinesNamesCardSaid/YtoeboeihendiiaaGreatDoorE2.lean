import Derived.Test.YtoeboeihendiiaaGreatDoorE1
set_option linter.all false
namespace Go.E
open Go.X

/-! ## tries -/
theorem T.get_setF {α : Type} (v : α) : ∀ (f n : Nat) (t : T α) (m : Nat), n < f → (T.setF v f t n).get m = if m = n then some v else t.get m
  | 0, n, t, m, h => absurd h (by omega)
  | f + 1, 0, t, m, _ => by
    cases t <;> cases m <;> simp [T.setF, T.get]
    split <;> rfl
  | f + 1, k + 1, t, m, h => by
    have ih := fun t m => T.get_setF v f (k / 2) t m (by omega)
    cases t with
    | leaf =>
      simp only [T.setF]
      split
      · rename_i hk
        have hk := Nat.eq_of_beq_eq_true hk
        cases m with
        | zero => simp [T.get]
        | succ j =>
          simp only [T.get]
          split
          · rename_i hj
            have hj := Nat.eq_of_beq_eq_true hj
            rw [ih]
            simp only [T.get]
            by_cases hjk : j = k
            · subst hjk; simp
            · rw [if_neg (by omega), if_neg (by omega)]
          · rename_i hj
            have hj : ¬ (j % 2 = 0) := fun h => by rw [h] at hj; cases hj
            rw [if_neg (by omega)]
      · rename_i hk
        have hk : ¬ (k % 2 = 0) := fun h => by rw [h] at hk; cases hk
        cases m with
        | zero => simp [T.get]
        | succ j =>
          simp only [T.get]
          split
          · rename_i hj
            have hj := Nat.eq_of_beq_eq_true hj
            rw [if_neg (by omega)]
          · rename_i hj
            have hj : ¬ (j % 2 = 0) := fun h => by rw [h] at hj; cases hj
            rw [ih]
            simp only [T.get]
            by_cases hjk : j = k
            · subst hjk; simp
            · rw [if_neg (by omega), if_neg (by omega)]
    | node u l r =>
      simp only [T.setF]
      split
      · rename_i hk
        have hk := Nat.eq_of_beq_eq_true hk
        cases m with
        | zero => simp [T.get]
        | succ j =>
          simp only [T.get]
          split
          · rename_i hj
            have hj := Nat.eq_of_beq_eq_true hj
            rw [ih]
            by_cases hjk : j = k
            · subst hjk; simp
            · rw [if_neg (by omega), if_neg (by omega)]
          · rename_i hj
            have hj : ¬ (j % 2 = 0) := fun h => by rw [h] at hj; cases hj
            rw [if_neg (by omega)]
      · rename_i hk
        have hk : ¬ (k % 2 = 0) := fun h => by rw [h] at hk; cases hk
        cases m with
        | zero => simp [T.get]
        | succ j =>
          simp only [T.get]
          split
          · rename_i hj
            have hj := Nat.eq_of_beq_eq_true hj
            rw [if_neg (by omega)]
          · rename_i hj
            have hj : ¬ (j % 2 = 0) := fun h => by rw [h] at hj; cases hj
            rw [ih]
            by_cases hjk : j = k
            · subst hjk; simp
            · rw [if_neg (by omega), if_neg (by omega)]

theorem T.get_set {α : Type} (t : T α) (n : Nat) (v : α) (m : Nat) : (t.set n v).get m = if m = n then some v else t.get m := T.get_setF v (n + 1) n t m (by omega)
theorem T.get_leaf {α : Type} (m : Nat) : (T.leaf : T α).get m = none := rfl

theorem putL_get (l : List V) : ∀ (t : T V) (off m : Nat), (putL t off l).get m = if off ≤ m ∧ m < off + l.length then l[m - off]? else t.get m := by
  induction l with
  | nil => intro t off m; simp [putL]; omega
  | cons v l ih =>
    intro t off m
    rw [putL, ih, T.get_set]
    simp only [List.length_cons]
    by_cases h1 : off + 1 ≤ m ∧ m < off + 1 + l.length
    · rw [if_pos h1, if_pos (by omega)]
      obtain ⟨k, rfl⟩ : ∃ k, m = off + 1 + k := ⟨m - (off + 1), by omega⟩
      rw [show off + 1 + k - (off + 1) = k from by omega, show off + 1 + k - off = k + 1 from by omega]
      simp
    · rw [if_neg h1]
      by_cases h2 : m = off
      · subst h2
        rw [if_pos rfl, if_pos (by omega)]
        simp
      · rw [if_neg h2, if_neg (by omega)]

theorem getL_spec (t : T V) : ∀ (n off : Nat) (l : List V), getL t n off = some l → l.length = n ∧ ∀ i, i < n → t.get (off + i) = l[i]?
  | 0, off, l, h => by simp [getL] at h; subst h; exact ⟨rfl, fun i hi => absurd hi (by omega)⟩
  | n + 1, off, l, h => by
    unfold getL at h
    split at h
    · rename_i v hv
      split at h
      · rename_i m hm
        simp only [Option.some.injEq] at h
        subst h
        obtain ⟨h1, h2⟩ := getL_spec t n (off + 1) m hm
        refine ⟨by simp [h1], fun i hi => ?_⟩
        cases i with
        | zero => simpa using hv
        | succ i => have := h2 i (by omega); rw [show off + (i + 1) = off + 1 + i from by omega]; simpa using this
      · cases h
    · cases h

/-! ## names -/
abbrev Nm := List (Nat × Nat)

mutual
def den (N : Nm) : V → Option Value
  | .int k n => some (.int k n)
  | .bool b => some (.bool b)
  | .str l => some (.string (bytesOf l))
  | .lit v => some v
  | .gl v => match v.oneCell with | true => some v | false => none
  | .mp k => match N[k]? with
    | some (b, _) => some (.map (some b))
    | none => none
  | .yld k => match N[k]? with
    | some (b, _) => some (.func (.yield b) #[] #[])
    | none => none
  | .ptr k off => match N[k]? with
    | some (b, _) => some (.pointer (some ⟨b, off, none⟩))
    | none => none
  | .sl k off n c => match N[k]? with
    | some (b, _) => some (.slice (some ⟨b, off, none⟩) n c)
    | none => none
  | .osl k off n lo => match N[k]? with
    | some (b, c) => if n + lo ≤ c then some (.slice (some ⟨b, off, none⟩) n (c - lo)) else none
    | none => none
  | .tl k off n lo d => match N[k]? with
    | some (b, c) => if n + lo ≤ c then some (.slice (if c - lo = n then some ⟨b, off, none⟩ else some ⟨b, off + d, none⟩) 0 (c - lo - n)) else none
    | none => none
  | .ifc t v => match den N v with
    | some x => some (.iface t x)
    | none => none
  | .fn f a b => match dens N a, dens N b with
    | some x, some y => some (.func f x.toArray y.toArray)
    | _, _ => none
  | .agg l => match dens N l with
    | some x => some (.agg x.toArray)
    | none => none
  | .tup l => match dens N l with
    | some x => some (.tuple x.toArray)
    | none => none
def dens (N : Nm) : List V → Option (List Value)
  | [] => some []
  | v :: l => match den N v, dens N l with
    | some x, some y => some (x :: y)
    | _, _ => none
end

theorem dens_spec {N : Nm} : ∀ {l : List V} {xs : List Value}, dens N l = some xs ↔ xs.length = l.length ∧ ∀ (i : Nat) (v : V), l[i]? = some v → ∃ x, xs[i]? = some x ∧ den N v = some x
  | [], xs => by
    simp only [dens, Option.some.injEq]
    constructor
    · rintro rfl; exact ⟨rfl, fun i v h => by simp at h⟩
    · rintro ⟨h, _⟩; exact (List.eq_nil_of_length_eq_zero h).symm
  | v :: l, xs => by
    unfold dens
    constructor
    · intro h
      split at h
      · rename_i x y hx hy
        simp only [Option.some.injEq] at h
        subst h
        obtain ⟨h1, h2⟩ := dens_spec.1 hy
        refine ⟨by simp [h1], fun i u hu => ?_⟩
        cases i with
        | zero => simp at hu; subst hu; exact ⟨x, by simp, hx⟩
        | succ i => simpa using h2 i u (by simpa using hu)
      · cases h
    · rintro ⟨h1, h2⟩
      cases xs with
      | nil => simp at h1
      | cons x xs =>
        obtain ⟨x', hx', hd⟩ := h2 0 v (by simp)
        simp at hx'
        subst hx'
        have := (dens_spec (l := l) (xs := xs)).2 ⟨by simpa using h1, fun i u hu => by simpa using h2 (i + 1) u (by simpa using hu)⟩
        rw [hd, this]

mutual
theorem den_mono {N M : Nm} (h : ∀ (k : Nat) p, N[k]? = some p → M[k]? = some p) : ∀ (v : V) (x : Value), den N v = some x → den M v = some x
  | .int .., x, hx | .bool _, x, hx | .str _, x, hx | .lit _, x, hx => by simpa [den] using hx
  | .gl _, x, hx => by unfold den at hx ⊢; exact hx
  | .mp k, x, hx => by
    unfold den at hx ⊢
    cases hk : N[k]? with
    | none => simp [hk] at hx
    | some p => simp only [hk] at hx; simp only [h _ _ hk]; exact hx
  | .yld k, x, hx => by
    unfold den at hx ⊢
    cases hk : N[k]? with
    | none => simp [hk] at hx
    | some p => simp only [hk] at hx; simp only [h _ _ hk]; exact hx
  | .ptr k off, x, hx => by
    unfold den at hx ⊢
    cases hk : N[k]? with
    | none => simp [hk] at hx
    | some p => simp only [hk] at hx; simp only [h _ _ hk]; exact hx
  | .sl k off n c, x, hx => by
    unfold den at hx ⊢
    cases hk : N[k]? with
    | none => simp [hk] at hx
    | some p => simp only [hk] at hx; simp only [h _ _ hk]; exact hx
  | .osl k off n lo, x, hx => by
    unfold den at hx ⊢
    cases hk : N[k]? with
    | none => simp [hk] at hx
    | some p => simp only [hk] at hx; simp only [h _ _ hk]; exact hx
  | .tl k off n lo d, x, hx => by
    unfold den at hx ⊢
    cases hk : N[k]? with
    | none => simp [hk] at hx
    | some p => simp only [hk] at hx; simp only [h _ _ hk]; exact hx
  | .ifc t v, x, hx => by
    unfold den at hx ⊢
    cases hv : den N v with
    | none => simp [hv] at hx
    | some y => simp only [hv] at hx; simp only [den_mono h v y hv]; exact hx
  | .fn f a b, x, hx => by
    unfold den at hx ⊢
    cases ha : dens N a with
    | none => simp [ha] at hx
    | some y =>
      cases hb : dens N b with
      | none => simp [ha, hb] at hx
      | some z => simp only [ha, hb] at hx; simp only [dens_mono h a y ha, dens_mono h b z hb]; exact hx
  | .agg l, x, hx => by
    unfold den at hx ⊢
    cases ha : dens N l with
    | none => simp [ha] at hx
    | some y => simp only [ha] at hx; simp only [dens_mono h l y ha]; exact hx
  | .tup l, x, hx => by
    unfold den at hx ⊢
    cases ha : dens N l with
    | none => simp [ha] at hx
    | some y => simp only [ha] at hx; simp only [dens_mono h l y ha]; exact hx
theorem dens_mono {N M : Nm} (h : ∀ (k : Nat) p, N[k]? = some p → M[k]? = some p) : ∀ (l : List V) (xs : List Value), dens N l = some xs → dens M l = some xs
  | [], xs, hx => by simpa [dens] using hx
  | v :: l, xs, hx => by
    unfold dens at hx ⊢
    cases hv : den N v with
    | none => simp [hv] at hx
    | some x =>
      cases hl : dens N l with
      | none => simp [hv, hl] at hx
      | some y => simp only [hv, hl] at hx; simp only [den_mono h v x hv, dens_mono h l y hl]; exact hx
end

def Ext (N M : Nm) : Prop := ∀ (k : Nat) p, N[k]? = some p → M[k]? = some p
theorem Ext.refl (N : Nm) : Ext N N := fun _ _ h => h
theorem Ext.trans {A B C : Nm} (h : Ext A B) (h' : Ext B C) : Ext A C := fun k p hp => h' k p (h k p hp)
theorem Ext.app (N M : Nm) : Ext N (N ++ M) := fun k p hp => by
  rw [List.getElem?_append_left (List.getElem?_eq_some_iff.1 hp).1]; exact hp

/-! ## conversions -/
theorem bytesOf_toV (s : ByteArray) : bytesOf (s.data.toList.map UInt8.toNat) = s := by
  unfold bytesOf
  have : ((s.data.toList.map UInt8.toNat).map UInt8.ofNat).toArray = s.data := by
    simp [List.map_map, Function.comp_def]
  rw [this]

theorem den_toV1 (N : Nm) (v : Value) : den N (toV1 v) = some v := by
  unfold toV1
  split <;> simp [den, bytesOf_toV]

theorem dens_toV1 (N : Nm) (l : List Value) : dens N (l.map toV1) = some l := by
  induction l with
  | nil => rfl
  | cons a l ih => simp [dens, den_toV1, ih]

theorem den_toV (N : Nm) (v : Value) : den N (toV v) = some v := by
  unfold toV
  split
  · simp [den, dens_toV1]
  · simp [den, dens_toV1]
  · exact den_toV1 N _

theorem den_ofV1 {N : Nm} : ∀ {v : V} {x : Value}, ofV1 v = some x → den N v = some x
  | .int .., x, h | .bool _, x, h | .str _, x, h | .lit _, x, h => by simpa [ofV1, den] using h
  | .ifc t v, x, h => by
    unfold ofV1 at h
    split at h
    · rename_i y hy
      unfold den
      rw [den_ofV1 hy]
      exact h
    · cases h
  | .gl _, x, h | .mp _, x, h | .yld _, x, h | .ptr .., x, h | .sl .., x, h | .osl .., x, h | .tl .., x, h | .fn .., x, h | .agg _, x, h | .tup _, x, h => by simp [ofV1] at h

theorem optMap_spec {α β : Type} {f : α → Option β} : ∀ {l : List α} {m : List β}, optMap f l = some m ↔ m.length = l.length ∧ ∀ (i : Nat) a, l[i]? = some a → ∃ b, m[i]? = some b ∧ f a = some b
  | [], m => by
    simp only [optMap, Option.some.injEq]
    constructor
    · rintro rfl; exact ⟨rfl, fun i v h => by simp at h⟩
    · rintro ⟨h, _⟩; exact (List.eq_nil_of_length_eq_zero h).symm
  | a :: l, m => by
    unfold optMap
    constructor
    · intro h
      split at h
      · cases h
      · rename_i b hb
        split at h
        · cases h
        · rename_i m' hm
          simp only [Option.some.injEq] at h
          subst h
          obtain ⟨h1, h2⟩ := optMap_spec.1 hm
          refine ⟨by simp [h1], fun i u hu => ?_⟩
          cases i with
          | zero => simp at hu; subst hu; exact ⟨b, by simp, hb⟩
          | succ i => simpa using h2 i u (by simpa using hu)
    · rintro ⟨h1, h2⟩
      cases m with
      | nil => simp at h1
      | cons b m =>
        obtain ⟨b', hb', hd⟩ := h2 0 a (by simp)
        simp at hb'
        subst hb'
        have := (optMap_spec (f := f) (l := l) (m := m)).2 ⟨by simpa using h1, fun i u hu => by simpa using h2 (i + 1) u (by simpa using hu)⟩
        rw [hd, this]

theorem den_ofV {N : Nm} {v : V} {x : Value} (h : ofV v = some x) : den N v = some x := by
  unfold ofV at h
  split at h
  · rename_i l
    cases hl : optMap ofV1 l with
    | none => simp [hl] at h
    | some m =>
      simp only [hl, Option.map_some, Option.some.injEq] at h
      subst h
      obtain ⟨h1, h2⟩ := optMap_spec.1 hl
      have : dens N l = some m := dens_spec.2 ⟨h1, fun i v hv => by
        obtain ⟨b, hb, hf⟩ := h2 i v hv
        exact ⟨b, hb, den_ofV1 hf⟩⟩
      simp [den, this]
  · exact den_ofV1 h

theorem runP_xq {P : Program} {σ : Sig} {α : Type} (s : Sem α) {a : α} (h : runP P s = some a) {Q : α → Prop} {L : Hp} (hq : Q a) : xq P σ s Q L := by
  induction s with
  | pure b => simp [runP] at h; subst h; exact hq
  | program k ih => exact ih P h
  | mark m k ih => exact ih h
  | _ => simp [runP] at h

theorem runP_xwp {P : Program} {σ : Sig} {α : Type} (s : Sem α) {a : α} (h : runP P s = some a) {Q : α → Hp → Prop} {L : Hp} (hq : Q a L) : xwp P σ s Q L :=
  xq_xwp (Q := fun x => x = a) _ (fun _ hx => hx ▸ hq) (runP_xq s h rfl)
end Go.E
