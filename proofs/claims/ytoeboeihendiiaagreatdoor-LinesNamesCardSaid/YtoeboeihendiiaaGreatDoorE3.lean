import Derived.Test.YtoeboeihendiiaaGreatDoorE2
set_option linter.all false
namespace Go.E
open Go.X
attribute [local semireducible] Yl xop
variable {P : Program} {σ : Sig} {N : Nm} {E : T V} {ρ : X.Env} {L : Hp} {dst : Option Tmp} {ty : TypeId} {pos : String} {after : Array Edge} {guard : Option (Nat × Bool)}

def ERel (N : Nm) (E : T V) (ρ : X.Env) : Prop := ∀ t v, E.get t = some v → den N v = some (ρ t)

theorem evV_den (he : ERel N E ρ) {x : Operand} {v : V} (h : evV E x = some v) : den N v = some (X.ev ρ x) := by
  cases x with
  | tmp t => exact he t v h
  | const c => simp [evV] at h; subst h; exact den_toV N c
  | global g => simp [evV] at h; subst h; simp [den, X.ev]
  | func f => simp [evV] at h; subst h; simp [den, dens, X.ev]

theorem den_int {k n x} (h : den N (.int k n) = some x) : x = .int k n := by simpa [den, eq_comm] using h
theorem den_bool {b x} (h : den N (.bool b) = some x) : x = .bool b := by simpa [den, eq_comm] using h
theorem den_str {b x} (h : den N (.str b) = some x) : x = .string (bytesOf b) := by simpa [den, eq_comm] using h
theorem den_lit {b x} (h : den N (.lit b) = some x) : x = b := by simpa [den, eq_comm] using h
theorem den_ptr {k off x} (h : den N (.ptr k off) = some x) : ∃ b c, N[k]? = some (b, c) ∧ x = .pointer (some ⟨b, off, none⟩) := by
  unfold den at h
  split at h
  · rename_i b c hk; exact ⟨b, c, hk, by simpa [eq_comm] using h⟩
  · cases h
theorem den_gl {v x} (h : den N (.gl v) = some x) : x = v ∧ v.oneCell = true := by
  unfold den at h
  split at h
  · rename_i hv; exact ⟨by simpa [eq_comm] using h, hv⟩
  · cases h
theorem den_mp {k x} (h : den N (.mp k) = some x) : ∃ b c, N[k]? = some (b, c) ∧ x = .map (some b) := by
  unfold den at h
  split at h
  · rename_i b c hk; exact ⟨b, c, hk, by simpa [eq_comm] using h⟩
  · cases h
theorem den_yld {k x} (h : den N (.yld k) = some x) : ∃ b c, N[k]? = some (b, c) ∧ x = .func (.yield b) #[] #[] := by
  unfold den at h
  split at h
  · rename_i b c hk; exact ⟨b, c, hk, by simpa [eq_comm] using h⟩
  · cases h
theorem mk_mp {k b c} (h : N[k]? = some (b, c)) : den N (.mp k) = some (.map (some b)) := by simp [den, h]
theorem mk_yld {k b c} (h : N[k]? = some (b, c)) : den N (.yld k) = some (.func (.yield b) #[] #[]) := by simp [den, h]
theorem mk_gl {v : Value} (h : v.oneCell = true) : den N (.gl v) = some v := by simp [den, h]
theorem den_sl {k off n m x} (h : den N (.sl k off n m) = some x) : ∃ b c, N[k]? = some (b, c) ∧ x = .slice (some ⟨b, off, none⟩) n m := by
  unfold den at h
  split at h
  · rename_i b c hk; exact ⟨b, c, hk, by simpa [eq_comm] using h⟩
  · cases h
theorem den_osl {k off n lo x} (h : den N (.osl k off n lo) = some x) : ∃ b c, N[k]? = some (b, c) ∧ n + lo ≤ c ∧ x = .slice (some ⟨b, off, none⟩) n (c - lo) := by
  unfold den at h
  split at h
  · rename_i b c hk
    split at h
    · rename_i hle; exact ⟨b, c, hk, hle, by simpa [eq_comm] using h⟩
    · cases h
  · cases h
theorem den_tl {k off n lo d x} (h : den N (.tl k off n lo d) = some x) : ∃ b c, N[k]? = some (b, c) ∧ n + lo ≤ c ∧ x = .slice (if c - lo = n then some ⟨b, off, none⟩ else some ⟨b, off + d, none⟩) 0 (c - lo - n) := by
  unfold den at h
  split at h
  · rename_i b c hk
    split at h
    · rename_i hle; exact ⟨b, c, hk, hle, by simpa [eq_comm] using h⟩
    · cases h
  · cases h
theorem mk_tl {k off n lo d b c} (h : N[k]? = some (b, c)) (hle : n + lo ≤ c) : den N (.tl k off n lo d) = some (.slice (if c - lo = n then some ⟨b, off, none⟩ else some ⟨b, off + d, none⟩) 0 (c - lo - n)) := by simp [den, h, hle]
theorem mk_ptr {k off b c} (h : N[k]? = some (b, c)) : den N (.ptr k off) = some (.pointer (some ⟨b, off, none⟩)) := by simp [den, h]
theorem mk_sl {k off n m b c} (h : N[k]? = some (b, c)) : den N (.sl k off n m) = some (.slice (some ⟨b, off, none⟩) n m) := by simp [den, h]
theorem mk_osl {k off n lo b c} (h : N[k]? = some (b, c)) (hle : n + lo ≤ c) : den N (.osl k off n lo) = some (.slice (some ⟨b, off, none⟩) n (c - lo)) := by simp [den, h, hle]
theorem den_ifc {t v x} (h : den N (.ifc t v) = some x) : ∃ y, den N v = some y ∧ x = .iface t y := by
  unfold den at h
  split at h
  · rename_i y hy; exact ⟨y, hy, by simpa [eq_comm] using h⟩
  · cases h
theorem den_fn {f a b x} (h : den N (.fn f a b) = some x) : ∃ y z, dens N a = some y ∧ dens N b = some z ∧ x = .func f y.toArray z.toArray := by
  unfold den at h
  split at h
  · rename_i y z hy hz; exact ⟨y, z, hy, hz, by simpa [eq_comm] using h⟩
  · cases h
theorem den_agg {l x} (h : den N (.agg l) = some x) : ∃ y, dens N l = some y ∧ x = .agg y.toArray := by
  unfold den at h
  split at h
  · rename_i y hy; exact ⟨y, hy, by simpa [eq_comm] using h⟩
  · cases h
theorem den_tup {l x} (h : den N (.tup l) = some x) : ∃ y, dens N l = some y ∧ x = .tuple y.toArray := by
  unfold den at h
  split at h
  · rename_i y hy; exact ⟨y, hy, by simpa [eq_comm] using h⟩
  · cases h
theorem mk_agg {l : List V} {y} (h : dens N l = some y) : den N (.agg l) = some (.agg y.toArray) := by simp [den, h]
theorem mk_tup {l : List V} {y} (h : dens N l = some y) : den N (.tup l) = some (.tuple y.toArray) := by simp [den, h]
theorem mk_fn {f} {a b : List V} {y z} (h : dens N a = some y) (h' : dens N b = some z) : den N (.fn f a b) = some (.func f y.toArray z.toArray) := by simp [den, h, h']
theorem mk_ifc {t} {v : V} {y} (h : den N v = some y) : den N (.ifc t v) = some (.iface t y) := by simp [den, h]

/-- what a quiet operation comes to -/
def Yd (P : Program) (σ : Sig) (N : Nm) (o : Oper) (ρ : X.Env) (v : V) : Prop := ∃ x, den N v = some x ∧ ∀ L, Yl P σ o ρ x L

theorem Yl.run {o : Oper} {n : Next} {x : Value} (h : runP P (execOp (X.ev ρ) o) = some n) (hn : isV x n) : Yl P σ o ρ x L := runP_xq _ h hn

theorem runP_bind {α β : Type} (s : Sem α) (f : α → Sem β) : runP P (s >>= f) = (runP P s).bind fun a => runP P (f a) := by
  show runP P (s.bind f) = _
  induction s with
  | pure a => rfl
  | program k ih => exact ih P
  | mark m k ih => exact ih
  | _ => rfl

theorem runP_pure {α : Type} (a : α) : runP P (pure a : Sem α) = some a := rfl

/-- by a run that looks at nothing -/
theorem Yd.run {o : Oper} {v : V} {x : Value} (hv : den N v = some x) (h : runP P (execOp (X.ev ρ) o) = some (.value x)) : Yd P σ N o ρ v :=
  ⟨x, hv, fun _ => Yl.run h rfl⟩

theorem runP_v {s : Sem Value} {v : Value} (h : runP P s = some v) : runP P (do pure (Next.value (← s))) = some (.value v) := by
  rw [runP_bind, h]; rfl

theorem runP_underlying {t : TypeId} : runP P (underlying t) = P.underlying t := by
  unfold underlying
  rw [runP_bind]
  show runP P _ = _
  cases P.underlying t <;> rfl
theorem runP_sizeOf {t : TypeId} : runP P (sizeOf t) = szT P t := by
  unfold sizeOf typeInfo szT
  rw [runP_bind, runP_bind]
  show (runP P _).bind _ = _
  cases P.info? t <;> rfl
theorem runP_isAgg {t : TypeId} : runP P (isAgg t) = isAggT P t := by
  unfold isAgg isAggT
  rw [runP_bind, runP_underlying]
  cases P.underlying t with
  | none => rfl
  | some d => cases d <;> rfl

theorem strEq_spec : ∀ {a b : List Nat}, strEq a b = true ↔ a = b
  | [], [] => by simp [strEq]
  | [], _ :: _ => by simp [strEq]
  | _ :: _, [] => by simp [strEq]
  | a :: l, b :: m => by
    unfold strEq
    split
    · rename_i h
      have := Nat.eq_of_beq_eq_true h
      subst this
      simp [strEq_spec]
    · rename_i h
      have : a ≠ b := fun he => by subst he; simp at h
      simp [this]

theorem small_spec {a : List Nat} (h : small a = true) : ∀ n ∈ a, n < 256 := by
  intro n hn
  unfold small at h
  rw [List.all_eq_true] at h
  have := h n hn
  exact Nat.le_of_ble_eq_true this

theorem bytes_inj {a b : List Nat} (ha : small a = true) (hb : small b = true) (h : a.map UInt8.ofNat = b.map UInt8.ofNat) : a = b := by
  have key : ∀ (l : List Nat), small l = true → (l.map UInt8.ofNat).map UInt8.toNat = l := by
    intro l hl
    rw [List.map_map]
    conv => rhs; rw [← List.map_id l]
    refine List.map_congr_left fun n hn => ?_
    have := small_spec hl n hn
    simp [UInt8.toNat_ofNat']
    omega
  rw [← key a ha, ← key b hb, h]

theorem eqGuard_eq {op : BinOp} {t : TypeId} {x y : Operand} {a b : Value} (h : (∃ s, a = .string s) ∨ (∃ p, a = .pointer p) ∨ (∃ k n, a = .int k n) ∨ (∃ f p q, a = .func f p q) ∨ (∃ t v, a = .iface t v) ∨ (∃ p n c, a = .slice p n c) ∨ a = .nilFunc) :
    eqGuard op t x y a b = pure () := by
  rcases h with ⟨s, rfl⟩ | ⟨p, rfl⟩ | ⟨k, n, rfl⟩ | ⟨f, p, q, rfl⟩ | ⟨t, v, rfl⟩ | ⟨p, n, c, rfl⟩ | rfl <;> (unfold eqGuard; split <;> rfl)
end Go.E
