import Derived.Test.YtoeboeihendiiaaGreatDoorE4
set_option linter.all false
namespace Go.E
open Go.X
attribute [local semireducible] Yl xop
variable {P : Program} {σ : Sig} {N : Nm} {E : T V} {ρ : X.Env} {L : Hp} {dst : Option Tmp} {ty : TypeId} {pos : String} {after : Array Edge} {guard : Option (Nat × Bool)}

theorem optMap_ev (he : ERel N E ρ) {a : Array Operand} {l : List V} (h : optMap (evV E) a.toList = some l) : dens N l = some (a.map (X.ev ρ)).toList := by
  obtain ⟨h1, h2⟩ := optMap_spec.1 h
  refine dens_spec.2 ⟨by simpa using h1.symm, fun i v hv => ?_⟩
  have hi : i < a.toList.length := by rw [← h1]; exact (List.getElem?_eq_some_iff.1 hv).1
  obtain ⟨b, hb, hf⟩ := h2 i _ (List.getElem?_eq_getElem hi)
  rw [hv] at hb
  simp only [Option.some.injEq] at hb
  subst hb
  refine ⟨X.ev ρ a.toList[i], ?_, evV_den he hf⟩
  simp at hi
  simp [hi]

theorem optMap_of {l : List V} {vs xs : List Value} (h : optMap ofV l = some vs) (hd : dens N l = some xs) : vs = xs := by
  obtain ⟨h1, h2⟩ := optMap_spec.1 h
  have : dens N l = some vs := dens_spec.2 ⟨h1, fun i v hv => by
    obtain ⟨b, hb, hf⟩ := h2 i v hv
    exact ⟨b, hb, den_ofV hf⟩⟩
  rw [this] at hd
  simpa using hd

theorem ofV_eq {v : V} {x y : Value} (h : ofV v = some x) (hd : den N v = some y) : x = y := by
  have := den_ofV (N := N) h
  rw [this] at hd
  simpa using hd

/-! ### operators -/
theorem genV_sound {op : BinOp} {t : TypeId} {x y : Operand} {a b v : V} (h : genV P op t x y a b = some v) (ha : den N a = some (X.ev ρ x)) (hb : den N b = some (X.ev ρ y)) {u : TypeId} :
    Yd P σ N ⟨dst, .binOp op t x y u, ty, pos, after, guard⟩ ρ v := by
  unfold genV at h
  split at h
  · rename_i va vb hva hvb
    cases hr : runP P (do eqGuard op t x y va vb; binOp op t va vb) with
    | none => simp [hr] at h
    | some r =>
      simp only [hr, Option.map_some, Option.some.injEq] at h
      subst h
      have h1 := ofV_eq hva ha
      have h2 := ofV_eq hvb hb
      subst h1; subst h2
      exact Yd.run (den_toV N r) (runP_v (s := do eqGuard op t x y (X.ev ρ x) (X.ev ρ y); binOp op t (X.ev ρ x) (X.ev ρ y)) hr)
  · cases h

theorem bin_run {op : BinOp} {t u : TypeId} {x y : Operand} {v : V} {r : Value} (hg : eqGuard op t x y (X.ev ρ x) (X.ev ρ y) = pure ()) (hr : runP P (binOp op t (X.ev ρ x) (X.ev ρ y)) = some r) (hd : den N v = some r) :
    Yd P σ N ⟨dst, .binOp op t x y u, ty, pos, after, guard⟩ ρ v := by
  refine Yd.run hd (runP_v (s := do eqGuard op t x y (X.ev ρ x) (X.ev ρ y); binOp op t (X.ev ρ x) (X.ev ρ y)) ?_)
  rw [hg]
  exact hr

theorem bytesOf_size (l : List Nat) : (bytesOf l).size = l.length := by simp [bytesOf, ByteArray.size]
theorem bytesOf_data (l : List Nat) : (bytesOf l).data.toList = l.map UInt8.ofNat := by simp [bytesOf]

theorem strEq_bytes {a b : List Nat} (ha : small a = true) (hb : small b = true) : ((bytesOf a).toList == (bytesOf b).toList) = strEq a b := by
  rw [ByteArray.toList_eq, ByteArray.toList_eq, bytesOf_data, bytesOf_data]
  cases h : strEq a b with
  | true => rw [strEq_spec.1 h]; simp
  | false =>
    have : a ≠ b := fun he => by rw [strEq_spec.2 he] at h; cases h
    simp only [beq_eq_false_iff_ne, ne_eq]
    exact fun he => this (bytes_inj ha hb he)

theorem maxDepth_succ : Op.maxDepth = 9999 + 1 := rfl

/-- a reference and nil -/
theorem nilRef_sound {t : TypeId} {a b : V} {x y : Value} (h : nilRef P t a b = true) (ha : den N a = some x) (hb : den N b = some y) :
    runP P (Op.equal t x y) = some false ∧ runP P (Op.equal t y x) = some false ∧
    (∀ op p q, eqGuard op t p q x y = pure ()) ∧ (∀ op p q, eqGuard op t p q y x = pure ()) ∧
    (binOp .eql t x y = (do pure (.bool (← Op.equal t x y))) ∧ binOp .neq t x y = (do pure (.bool (!(← Op.equal t x y))))) ∧
    (binOp .eql t y x = (do pure (.bool (← Op.equal t y x))) ∧ binOp .neq t y x = (do pure (.bool (!(← Op.equal t y x))))) := by
  have gp : ∀ p q : Option Addr, ∀ op u v, eqGuard op t u v (.pointer p) (.pointer q) = pure () := fun p q op u v => eqGuard_eq (.inr (.inl ⟨_, rfl⟩))
  have gs : ∀ (p : Option Addr) n c (q : Option Addr) m d op u v, eqGuard op t u v (.slice p n c) (.slice q m d) = pure () := fun p n c q m d op u v => eqGuard_eq (by simp)
  have gf : ∀ f p q op u v, eqGuard op t u v (.func f p q) .nilFunc = pure () := fun f p q op u v => eqGuard_eq (by simp)
  have gf' : ∀ f p q op u v, eqGuard op t u v .nilFunc (.func f p q) = pure () := fun f p q op u v => eqGuard_eq (by simp)
  have gi : ∀ s w op u v, eqGuard op t u v (.iface s w) .nilIface = pure () := fun s w op u v => eqGuard_eq (by simp)
  have gi' : ∀ s w op u v, eqGuard op t u v .nilIface (.iface s w) = pure () := by
    intro s w op u v
    unfold eqGuard
    split <;> rfl
  unfold nilRef at h
  split at h
  · rename_i e k o hu
    obtain rfl := den_lit ha
    obtain ⟨bb, c, _, rfl⟩ := den_ptr hb
    refine ⟨by unfold Op.equal; rw [maxDepth_succ]; unfold Op.equalIn; rw [runP_bind, runP_underlying, hu]; rfl, by unfold Op.equal; rw [maxDepth_succ]; unfold Op.equalIn; rw [runP_bind, runP_underlying, hu]; rfl, gp _ _, gp _ _, ⟨rfl, rfl⟩, ⟨rfl, rfl⟩⟩
  · rename_i k o hu
    obtain rfl := den_lit ha
    obtain ⟨bb, c, _, rfl⟩ := den_ptr hb
    refine ⟨by unfold Op.equal; rw [maxDepth_succ]; unfold Op.equalIn; rw [runP_bind, runP_underlying, hu]; rfl, by unfold Op.equal; rw [maxDepth_succ]; unfold Op.equalIn; rw [runP_bind, runP_underlying, hu]; rfl, gp _ _, gp _ _, ⟨rfl, rfl⟩, ⟨rfl, rfl⟩⟩
  · rename_i hu
    obtain rfl := den_lit ha
    obtain ⟨y, _, rfl⟩ := den_ifc hb
    refine ⟨by unfold Op.equal; rw [maxDepth_succ]; unfold Op.equalIn; rw [runP_bind, runP_underlying, hu]; rfl, by unfold Op.equal; rw [maxDepth_succ]; unfold Op.equalIn; rw [runP_bind, runP_underlying, hu]; rfl, gi' _ _, gi _ _, ⟨rfl, rfl⟩, ⟨rfl, rfl⟩⟩
  · rename_i hu
    obtain rfl := den_lit ha
    obtain ⟨y, z, _, _, rfl⟩ := den_fn hb
    refine ⟨by unfold Op.equal; rw [maxDepth_succ]; unfold Op.equalIn; rw [runP_bind, runP_underlying, hu]; rfl, by unfold Op.equal; rw [maxDepth_succ]; unfold Op.equalIn; rw [runP_bind, runP_underlying, hu]; rfl, gf' _ _ _, gf _ _ _, ⟨rfl, rfl⟩, ⟨rfl, rfl⟩⟩
  · rename_i hu
    obtain rfl := den_lit ha
    obtain ⟨bb, c, _, rfl⟩ := den_sl hb
    refine ⟨by unfold Op.equal; rw [maxDepth_succ]; unfold Op.equalIn; rw [runP_bind, runP_underlying, hu]; rfl, by unfold Op.equal; rw [maxDepth_succ]; unfold Op.equalIn; rw [runP_bind, runP_underlying, hu]; rfl, gs _ _ _ _ _ _, gs _ _ _ _ _ _, ⟨rfl, rfl⟩, ⟨rfl, rfl⟩⟩
  · rename_i hu
    obtain rfl := den_lit ha
    obtain ⟨bb, c, _, _, rfl⟩ := den_osl hb
    refine ⟨by unfold Op.equal; rw [maxDepth_succ]; unfold Op.equalIn; rw [runP_bind, runP_underlying, hu]; rfl, by unfold Op.equal; rw [maxDepth_succ]; unfold Op.equalIn; rw [runP_bind, runP_underlying, hu]; rfl, gs _ _ _ _ _ _, gs _ _ _ _ _ _, ⟨rfl, rfl⟩, ⟨rfl, rfl⟩⟩
  · cases h

/-- equality of two pointers into one block, or with nil -/
theorem eqS_sound {t : TypeId} {a b : V} {r : Bool} {x y : Value} (h : eqS P t a b = some r) (ha : den N a = some x) (hb : den N b = some y) :
    runP P (binOp .eql t x y) = some (.bool r) ∧ runP P (binOp .neq t x y) = some (.bool !r) ∧ (∀ op p q, eqGuard op t p q x y = pure ()) := by
  have eql : ∀ x y : Value, (∀ op p q, eqGuard op t p q x y = pure ()) → runP P (Op.equal t x y) = some r → binOp .eql t x y = (do pure (.bool (← Op.equal t x y))) → binOp .neq t x y = (do pure (.bool (!(← Op.equal t x y)))) →
      runP P (binOp .eql t x y) = some (.bool r) ∧ runP P (binOp .neq t x y) = some (.bool !r) ∧ (∀ op p q, eqGuard op t p q x y = pure ()) := by
    intro x y hg h1 h2 h3
    rw [h2, h3, runP_bind, runP_bind, h1]
    exact ⟨rfl, rfl, hg⟩
  unfold eqS at h
  split at h
  · split at h
    · rename_i hs
      simp only [Bool.and_eq_true] at hs
      simp only [Option.some.injEq] at h
      subst h
      obtain rfl := den_str ha
      obtain rfl := den_str hb
      refine ⟨?_, ?_, fun op p q => eqGuard_eq (.inl ⟨_, rfl⟩)⟩
      · show some (Value.bool _) = _
        rw [strEq_bytes hs.1 hs.2]
      · show some (Value.bool _) = _
        rw [strEq_bytes hs.1 hs.2]
    · cases h
  · rename_i k a' k' b'
    obtain ⟨bb, c, hk, rfl⟩ := den_ptr ha
    obtain ⟨bb', c', hk', rfl⟩ := den_ptr hb
    split at h
    · rename_i e hu
      split at h
      · rename_i m hkk hsz
        have := Nat.eq_of_beq_eq_true hkk
        subst this
        rw [hk] at hk'
        simp only [Option.some.injEq, Prod.mk.injEq] at hk'
        obtain ⟨rfl, rfl⟩ := hk'
        simp only [Option.some.injEq] at h
        subst h
        refine eql _ _ (fun op p q => eqGuard_eq (.inr (.inl ⟨_, rfl⟩))) ?_ rfl rfl
        unfold Op.equal
        rw [maxDepth_succ]
        unfold Op.equalIn
        rw [runP_bind, runP_underlying, hu]
        simp only [Option.bind_some]
        rw [runP_bind, runP_sizeOf, hsz]
        simp only [Option.bind_some]
        rw [if_pos (by simp)]
        unfold sameAddr
        simp only [beq_self_eq_true, if_true]
        show some _ = some _
        congr 1
        rw [Bool.eq_iff_iff]
        simp
      · cases h
    · cases h
  · split at h
    · rename_i hn
      simp only [Option.some.injEq] at h
      subst h
      rw [Bool.or_eq_true] at hn
      rcases hn with hn | hn
      · obtain ⟨h1, h2, h3, h4, h5, h6⟩ := nilRef_sound hn ha hb
        exact eql _ _ h3 h1 h5.1 h5.2
      · obtain ⟨h1, h2, h3, h4, h5, h6⟩ := nilRef_sound hn hb ha
        exact eql _ _ h4 h2 h6.1 h6.2
    · cases h

theorem binV_sound {op : BinOp} {t u : TypeId} {x y : Operand} {a b v : V} (h : binV P op t x y a b = some v) (ha : den N a = some (X.ev ρ x)) (hb : den N b = some (X.ev ρ y)) :
    Yd P σ N ⟨dst, .binOp op t x y u, ty, pos, after, guard⟩ ρ v := by
  unfold binV at h
  split at h
  · split at h
    · rename_i r hr
      simp only [Option.some.injEq] at h
      subst h
      obtain ⟨h1, h2, h3⟩ := eqS_sound hr ha hb
      exact bin_run (h3 _ _ _) h1 rfl
    · exact genV_sound h ha hb
  · split at h
    · rename_i r hr
      simp only [Option.some.injEq] at h
      subst h
      obtain ⟨h1, h2, h3⟩ := eqS_sound hr ha hb
      exact bin_run (h3 _ _ _) h2 rfl
    · exact genV_sound h ha hb
  · split at h
    · rename_i l m
      split at h
      · rename_i hle
        simp only [Option.some.injEq] at h
        subst h
        have hle := Nat.le_of_ble_eq_true hle
        have hx := den_str ha
        have hy := den_str hb
        refine bin_run (r := .string (bytesOf (l ++ m))) ?_ ?_ rfl
        · exact eqGuard_eq (.inl ⟨_, hx⟩)
        · rw [hx, hy]
          show runP P (Op.stringOp .add (bytesOf l) (bytesOf m)) = _
          unfold Op.stringOp
          simp only [bytesOf_size]
          rw [if_neg (by simp only [IntKind.max, IntKind.signed, IntKind.bits]; omega)]
          show some _ = some _
          congr 2
          apply ByteArray.ext
          apply Array.ext'
          simp [ByteArray.data_append, bytesOf]
      · cases h
    · split at h
      · rename_i hk
        simp only [decide_eq_true_eq] at hk
        subst hk
        simp only [Option.some.injEq] at h
        subst h
        have hx := den_int ha
        have hy := den_int hb
        refine bin_run ?_ ?_ rfl
        · exact eqGuard_eq (by rw [hx]; simp)
        · rw [hx, hy, b_add]; rfl
      · cases h
    · cases h
  · exact genV_sound h ha hb
end Go.E
