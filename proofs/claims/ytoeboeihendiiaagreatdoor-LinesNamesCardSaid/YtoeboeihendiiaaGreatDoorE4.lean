import Derived.Test.YtoeboeihendiiaaGreatDoorE3
set_option linter.all false
namespace Go.E
open Go.X
attribute [local semireducible] Yl xop
variable {P : Program} {σ : Sig} {N : Nm} {E : T V} {ρ : X.Env} {L : Hp} {dst : Option Tmp} {ty : TypeId} {pos : String} {after : Array Edge} {guard : Option (Nat × Bool)}

/-! ### cells -/
theorem dens_get {l : List V} {xs : List Value} (h : dens N l = some xs) {i : Nat} {v : V} (hv : l[i]? = some v) : ∃ x, xs[i]? = some x ∧ den N v = some x := (dens_spec.1 h).2 i v hv
theorem dens_len {l : List V} {xs : List Value} (h : dens N l = some xs) : xs.length = l.length := (dens_spec.1 h).1

theorem dens_mem {l : List V} {xs : List Value} (h : dens N l = some xs) {x : Value} (hx : x ∈ xs) : ∃ v ∈ l, den N v = some x := by
  obtain ⟨i, hi, hx⟩ := List.getElem_of_mem hx
  have hl := dens_len h
  obtain ⟨y, hy, hd⟩ := dens_get h (List.getElem?_eq_getElem (show i < l.length by omega))
  rw [List.getElem?_eq_getElem hi] at hy
  simp only [Option.some.injEq] at hy
  exact ⟨_, List.getElem_mem (show i < l.length by omega), by rw [hd, ← hy, hx]⟩

theorem oneV_spec {v : V} {x : Value} (h : oneV v = true) (hd : den N v = some x) : x.oneCell = true := by
  cases v with
  | int k n => rw [den_int hd]; rfl
  | bool b => rw [den_bool hd]; rfl
  | str l => rw [den_str hd]; rfl
  | lit y => rw [den_lit hd]; exact h
  | gl y => obtain ⟨rfl, h1⟩ := den_gl hd; exact h1
  | mp k => obtain ⟨b, c, _, rfl⟩ := den_mp hd; rfl
  | yld k => obtain ⟨b, c, _, rfl⟩ := den_yld hd; rfl
  | ptr k off => obtain ⟨b, c, _, rfl⟩ := den_ptr hd; rfl
  | sl k off n c => obtain ⟨b, c, _, rfl⟩ := den_sl hd; rfl
  | osl k off n c => obtain ⟨b, c, _, _, rfl⟩ := den_osl hd; rfl
  | tl k off n c d => obtain ⟨b, c, _, _, rfl⟩ := den_tl hd; rfl
  | ifc t v => obtain ⟨y, _, rfl⟩ := den_ifc hd; rfl
  | fn f a b => obtain ⟨y, z, _, _, rfl⟩ := den_fn hd; rfl
  | agg l => cases h
  | tup l => cases h

theorem cells_one {x : Value} (h : x.oneCell = true) : x.cells = #[x] := by
  cases x <;> first | rfl | (exact absurd h (by simp [Value.oneCell]))

theorem cells1_spec {v : V} {l : List V} {x : Value} (h : cells1 v = some l) (hd : den N v = some x) :
    ∃ xs, dens N l = some xs ∧ x.cells = xs.toArray ∧ ∀ u ∈ xs, u.oneCell = true := by
  have one : ∀ v : V, (match oneV v with | true => some [v] | false => none) = some l → den N v = some x → ∃ xs, dens N l = some xs ∧ x.cells = xs.toArray ∧ ∀ u ∈ xs, u.oneCell = true := by
    intro v h hd
    split at h
    · rename_i ho
      simp only [Option.some.injEq] at h
      subst h
      have := oneV_spec ho hd
      exact ⟨[x], by simp [dens, hd], by rw [cells_one this], by simpa using this⟩
    · cases h
  cases v with
  | agg l' =>
    simp only [cells1] at h
    split at h
    · rename_i ho
      simp only [Option.some.injEq] at h
      subst h
      obtain ⟨y, hy, rfl⟩ := den_agg hd
      refine ⟨y, hy, rfl, fun u hu => ?_⟩
      obtain ⟨v, hv, hd⟩ := dens_mem hy hu
      rw [List.all_eq_true] at ho
      exact oneV_spec (ho v hv) hd
    · cases h
  | int k n => exact one (.int k n) h hd
  | bool b => exact one (.bool b) h hd
  | str b => exact one (.str b) h hd
  | lit b => exact one (.lit b) h hd
  | gl b => exact one (.gl b) h hd
  | mp b => exact one (.mp b) h hd
  | yld b => exact one (.yld b) h hd
  | ptr a b => exact one (.ptr a b) h hd
  | sl a b c d => exact one (.sl a b c d) h hd
  | osl a b c d => exact one (.osl a b c d) h hd
  | tl a b c d e => exact one (.tl a b c d e) h hd
  | ifc a b => exact one (.ifc a b) h hd
  | fn a b c => exact one (.fn a b c) h hd
  | tup b => exact one (.tup b) h hd

theorem dens_append {l m : List V} {xs ys : List Value} (h : dens N l = some xs) (h' : dens N m = some ys) : dens N (l ++ m) = some (xs ++ ys) := by
  induction l generalizing xs with
  | nil => simp [dens] at h; subst h; simpa using h'
  | cons v l ih =>
    unfold dens at h
    split at h
    · rename_i x y hx hy
      simp only [Option.some.injEq] at h
      subst h
      simp [dens, hx, ih hy]
    · cases h

theorem dens_take {l : List V} {xs : List Value} (h : dens N l = some xs) (k : Nat) : dens N (l.take k) = some (xs.take k) := by
  refine dens_spec.2 ⟨by simp [dens_len h], fun i v hv => ?_⟩
  rw [List.getElem?_take] at hv ⊢
  split at hv
  · rename_i hi
    rw [if_pos hi]
    exact dens_get h hv
  · cases hv

theorem dens_drop {l : List V} {xs : List Value} (h : dens N l = some xs) (k : Nat) : dens N (l.drop k) = some (xs.drop k) := by
  refine dens_spec.2 ⟨by simp [dens_len h], fun i v hv => ?_⟩
  rw [List.getElem?_drop] at hv ⊢
  exact dens_get h hv

theorem foldl_set (off : Nat) : ∀ (l : List Value) (k : Nat) (cs : Array Value), off + k + l.length ≤ cs.size →
    ((l.zipIdx k).foldl (fun cs (p : Value × Nat) => cs.setIfInBounds (off + p.2) p.1) cs).toList = cs.toList.take (off + k) ++ (l ++ cs.toList.drop (off + k + l.length))
  | [], k, cs, h => by simp
  | v :: l, k, cs, h => by
    simp only [List.length_cons] at h
    simp only [List.zipIdx_cons, List.foldl_cons]
    rw [foldl_set off l (k + 1) _ (by simp; omega)]
    apply List.ext_getElem?
    intro i
    simp only [Array.toList_setIfInBounds, List.length_cons]
    rcases Nat.lt_trichotomy i (off + k) with hi | hi | hi
    · rw [List.getElem?_append_left (by simp; omega), List.getElem?_append_left (by simp; omega), List.getElem?_take, List.getElem?_take, if_pos (by omega), if_pos hi,
        List.getElem?_set_ne (by omega)]
    · subst hi
      rw [List.getElem?_append_left (by simp; omega), List.getElem?_append_right (by simp; omega), List.getElem?_take, if_pos (by omega)]
      simp
      rw [show off + k - min (off + k) cs.size = 0 from by omega]
      rw [List.getElem?_set_self (by simp; omega)]
      simp
    · have e1 : (List.take (off + (k + 1)) (cs.toList.set (off + k) v)).length = off + k + 1 := by simp; omega
      have e2 : (List.take (off + k) cs.toList).length = off + k := by simp; omega
      rw [List.getElem?_append_right (by omega), e1, List.getElem?_append_right (l₁ := List.take (off + k) cs.toList) (by omega), e2]
      obtain ⟨j, rfl⟩ : ∃ j, i = off + k + 1 + j := ⟨i - (off + k + 1), by omega⟩
      rw [show off + k + 1 + j - (off + k) = j + 1 from by omega, show off + k + 1 + j - (off + k + 1) = j from by omega]
      simp only [List.cons_append, List.getElem?_cons_succ]
      by_cases hj : j < l.length
      · rw [List.getElem?_append_left hj, List.getElem?_append_left hj]
      · rw [List.getElem?_append_right (by omega), List.getElem?_append_right (by omega), List.getElem?_drop, List.getElem?_drop, List.getElem?_set_ne (by omega)]
        congr 1
        omega

theorem vfill_spec {pl : Nat → Option (Nat × Nat)} {f : V → Value} : ∀ {l : List (Nat × V)} {zl l' : List V} {zs : List Value}, vfill pl zl l = some l' → dens N zl = some zs →
    (∀ p ∈ l, den N p.2 = some (f p.2)) → ∃ xs, dens N l' = some xs ∧ Instr.fill pl zs.toArray (l.map fun p => (p.1, f p.2)) = some xs.toArray
  | [], zl, l', zs, h, hz, _ => by
    simp [vfill] at h
    subst h
    exact ⟨zs, hz, rfl⟩
  | (i, v) :: l, zl, l', zs, h, hz, hf => by
    unfold vfill at h
    split at h
    · rename_i off n c hp hc
      split at h
      · rename_i hb
        simp only [Bool.and_eq_true] at hb
        have h1 := Nat.eq_of_beq_eq_true hb.1
        have h2 := Nat.le_of_ble_eq_true hb.2
        obtain ⟨xs, hxs, hcells, hone⟩ := cells1_spec hc (hf (i, v) (by simp))
        have hlen := dens_len hxs
        have hzl := dens_len hz
        have hz' : dens N (zl.take off ++ (c ++ zl.drop (off + n))) = some (zs.take off ++ (xs ++ zs.drop (off + n))) := dens_append (dens_take hz _) (dens_append hxs (dens_drop hz _))
        obtain ⟨ys, hys, hfill⟩ := vfill_spec (f := f) h hz' fun p hp => hf p (List.mem_cons_of_mem _ hp)
        refine ⟨ys, hys, ?_⟩
        simp only [List.map_cons, Instr.fill, hp, hcells]
        rw [if_neg (by simp; omega)]
        rw [← hfill]
        congr 1
        have := foldl_set off xs 0 zs.toArray (by simp; omega)
        simp only [Nat.add_zero] at this
        apply Array.ext'
        rw [← Array.foldl_toList, Array.toList_zipIdx]
        rw [this, hlen, h1]
      · cases h
    · cases h
end Go.E
