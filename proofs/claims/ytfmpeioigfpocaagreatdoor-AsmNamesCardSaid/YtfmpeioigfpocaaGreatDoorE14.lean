import Derived.Test.YtfmpeioigfpocaaGreatDoorE13
set_option linter.all false
namespace Go.E
open Go.X
attribute [local semireducible] Yl xop XL XD XF
variable {P : Program} {σ : Sig} {N : Nm} {E : T V} {ρ : X.Env} {L : Hp} {Z : Ex} {dst : Option Tmp} {ty : TypeId} {pos : String} {after : Array Edge} {guard : Option (Nat × Bool)}

theorem bnd_call {α : Type} {s : String} {x : Option α} {k : α → OR} {f : FuncId} {a : List V} (h : bnd s x k = .call f a) : ∃ a', x = some a' ∧ k a' = .call f a := by
  cases x with
  | none => simp [bnd] at h
  | some a => exact ⟨a, rfl, h⟩

theorem callH_sound (hz : ExOk P Z) (he : ERel N E ρ) {S S' : St} {c : Call} {v : V} (hr : SRel P N S L) (h : heapV P Z ⟨dst, .call c, ty, pos, after, guard⟩ E S = .val v S') : XV P σ N ⟨dst, .call c, ty, pos, after, guard⟩ ρ S' v L := by
  obtain ⟨cal, args, tys⟩ := c
  simp only [heapV] at h
  obtain ⟨l, hl, h⟩ := bnd_val h
  have hd := optMap_ev he hl
  split at h
  · -- append
    split at h
    · rename_i t t' s x htys
      split at h
      · rename_i hsrc
        obtain ⟨xs, xx, hargs, hs, hx⟩ := two_ev hd
        have key := append_sound (σ := σ) (ty := ty) (t' := t') hr (by assumption) hs hx h
        have htys' : tys = #[t, t'] := by apply Array.ext'; exact htys
        subst htys'
        refine xop_builtin (s := Builtin.append_ #[t, t'] ty #[xs, xx]) (fun cs => by rw [hargs]; rfl) ?_
        exact key
      · cases h
    · cases h
  · -- a string of bytes
    split at h
    · rename_i k off n
      obtain ⟨o, ho, h⟩ := bnd_val h
      obtain ⟨pt, hpt, h⟩ := bnd_val h
      split at h
      · rename_i u hu
        split at h
        · rename_i hlie hle
          obtain ⟨cl, hcl, h⟩ := bnd_val h
          obtain ⟨bs, hbs, h⟩ := bnd_val h
          simp only [OR.val.injEq] at h
          obtain ⟨rfl, rfl⟩ := h
          obtain ⟨xs, xx, hargs, hs, hx⟩ := two_ev hd
          obtain ⟨b, c, hk, rfl⟩ := den_ptr hs
          obtain rfl := den_int hx
          refine xop_builtin (s := Builtin.unsafeString_ tys ty #[.pointer (some ⟨b, off, none⟩), .int .i64 ((n + 1 : Nat) : Int)]) (fun cs => by rw [hargs]; rfl) ?_
          exact unsafeString_sound hr hk ho hpt (by assumption) (by assumption) (Nat.le_of_ble_eq_true (by assumption)) hcl hbs
        · cases h
      · cases h
    · cases h
  · -- copy
    split at h
    · rename_i t ts d x htys
      obtain ⟨⟨e, sz, zl⟩, hel, h⟩ := bnd_val h
      obtain ⟨⟨m, new⟩, hsrc, h⟩ := bnd_val h
      obtain ⟨xs, xx, hargs, hs, hx⟩ := two_ev hd
      have ht0 : tys[0]? = some t := by
        rw [← Array.getElem?_toList, htys]; rfl
      simp only at h
      split at h
      · rename_i k off n cap _ _
        obtain ⟨b, c, hk, rfl⟩ := den_sl hs
        refine xop_builtin (s := Builtin.copy_ tys ty #[.slice (some ⟨b, off, none⟩) n cap, xx]) (fun cs => by rw [hargs]; rfl) ?_
        exact copy_sound hr ht0 hel hsrc hx hk h
      · rename_i k off n lo _ _
        obtain ⟨b, c, hk, hle, rfl⟩ := den_osl hs
        refine xop_builtin (s := Builtin.copy_ tys ty #[.slice (some ⟨b, off, none⟩) n (c - lo), xx]) (fun cs => by rw [hargs]; rfl) ?_
        exact copy_sound hr ht0 hel hsrc hx hk h
      · cases h
    · cases h
  · cases h
  · -- a function
    rename_i f
    obtain ⟨fv, hf, h⟩ := bnd_val h
    split at h
    · rename_i f' first cap
      split at h
      · cases h
      · split at h
        · rename_i n hmn _
          obtain ⟨fn, hfn, h⟩ := bnd_val h
          obtain ⟨t, ht, h⟩ := bnd_val h
          obtain ⟨⟨e, sz, zl⟩, hel, h⟩ := bnd_val h
          simp only at h
          split at h
          · rename_i hc
            have hc' : (Nat.ble n (2 ^ 30) && Nat.beq sz 1) = true := by assumption
            simp only [Bool.and_eq_true] at hc'
            have hc1 := Nat.le_of_ble_eq_true hc'.1
            have hc2 := Nat.eq_of_beq_eq_true hc'.2
            subst hc2
            simp only [OR.val.injEq] at h
            obtain ⟨rfl, rfl⟩ := h
            have hmn' := Nat.eq_of_beq_eq_true (show Nat.beq f' Z.mn = true by assumption)
            subst hmn'
            obtain ⟨y, z, hy, hz', hx⟩ := den_fn (evV_den he hf)
            simp [dens] at hy hz'
            subst hy; subst hz'
            obtain ⟨x, hargs, hxx⟩ := one_ev hd
            obtain rfl := den_int hxx
            have key := noZero_sound (σ := σ) hr hz hfn ht hel hc1
            unfold XV xop
            simp only [execOp, resolve, hx, Deferred.ofValue, pure_bind, invoke, hargs]
            exact key
          · cases h
        · cases h
    · cases h
  · cases h

theorem heapV_sound (hz : ExOk P Z) (he : ERel N E ρ) {S S' : St} {o : Oper} {v : V} (hr : SRel P N S L) (h : heapV P Z o E S = .val v S') : XV P σ N o ρ S' v L := by
  obtain ⟨dst, op, ty, pos, after, guard⟩ := o
  cases op with
  | alloc t => exact alloc_sound hr h
  | box t x => exact box_sound he hr h
  | buildSlice t n ps => exact buildSlice_sound he hr h
  | load t a => exact load_sound he hr h
  | store t a x => exact store_sound he hr h
  | convert s d x => exact convertH_sound he hr h
  | makeSlice t x y => exact makeSlice_sound he hr h
  | call c => exact callH_sound hz he hr h
  | _ => simp [heapV] at h

theorem opV_sound (hz : ExOk P Z) (he : ERel N E ρ) {S S' : St} {o : Oper} {v : V} (hr : SRel P N S L) (h : opV P Z o E S = .val v S') : XV P σ N o ρ S' v L := by
  unfold opV at h
  split at h
  · rename_i w hw
    simp only [OR.val.injEq] at h
    obtain ⟨rfl, rfl⟩ := h
    obtain ⟨x, hd, hy⟩ := pureV_sound (σ := σ) hz he hw
    exact xop_of_Yl (hy L) (Wk.intro ⟨N, Ext.refl N, hd, hr⟩)
  · exact heapV_sound hz he hr h

theorem appV_call {S : St} {t : TypeId} {s x : V} {f : FuncId} {a : List V} (h : appV P S t s x = .call f a) : False := by
  unfold appV at h
  obtain ⟨⟨e, sz, zl⟩, hel, h⟩ := bnd_call h
  obtain ⟨⟨m, new⟩, hsrc, h⟩ := bnd_call h
  simp only at h
  split at h
  · cases h
  · split at h
    · split at h
      · cases h
      · split at h <;> cases h
    · split at h
      · obtain ⟨_, _, h⟩ := bnd_call h; cases h
      · obtain ⟨_, _, h⟩ := bnd_call h
        obtain ⟨_, _, h⟩ := bnd_call h
        split at h <;> cases h
    · obtain ⟨_, _, h⟩ := bnd_call h
      split at h
      · obtain ⟨_, _, h⟩ := bnd_call h; cases h
      · obtain ⟨_, _, h⟩ := bnd_call h
        split at h <;> cases h
    · cases h

theorem copyV_call {S : St} {k off n sz m : Nat} {new : List V} {f : FuncId} {a : List V} (h : copyV S k off n sz m new = .call f a) : False := by
  unfold copyV at h
  split at h
  · obtain ⟨_, _, h⟩ := bnd_call h; cases h
  · cases h

/-- a call of a function with a body -/
theorem opV_call (hz : ExOk P Z) (he : ERel N E ρ) {S : St} {o : Oper} {f : FuncId} {l : List V} (h : opV P Z o E S = .call f l) :
    ∃ xs, dens N l = some xs ∧ ∀ K : Value → Hp → Prop, X.Spec P σ f xs.toArray K L → xop P σ o ρ K L := by
  unfold opV at h
  split at h
  · cases h
  · obtain ⟨dst, op, ty, pos, after, guard⟩ := o
    cases op with
    | call c =>
      obtain ⟨cal, args, tys⟩ := c
      simp only [heapV] at h
      obtain ⟨al, hl, h⟩ := bnd_call h
      have hd := optMap_ev he hl
      split at h
      · split at h
        · split at h
          · exact (appV_call h).elim
          · cases h
        · cases h
      · split at h
        · obtain ⟨_, _, h⟩ := bnd_call h
          obtain ⟨_, _, h⟩ := bnd_call h
          split at h
          · split at h
            · obtain ⟨_, _, h⟩ := bnd_call h
              obtain ⟨_, _, h⟩ := bnd_call h
              cases h
            · cases h
          · cases h
        · cases h
      · split at h
        · obtain ⟨_, _, h⟩ := bnd_call h
          obtain ⟨_, _, h⟩ := bnd_call h
          (try simp only at h)
          split at h
          · exact (copyV_call h).elim
          · exact (copyV_call h).elim
          · cases h
        · cases h
      · cases h
      · rename_i fo
        obtain ⟨fv, hf, h⟩ := bnd_call h
        split at h
        · rename_i f' first cap
          split at h
          · rename_i hb
            simp only [OR.call.injEq] at h
            obtain ⟨rfl, rfl⟩ := h
            obtain ⟨y, z, hy, hz', hx⟩ := den_fn (evV_den he hf)
            refine ⟨y ++ (args.map (X.ev ρ)).toList ++ z, dens_append (dens_append hy hd) hz', fun K hK => ?_⟩
            refine xop_callv hx hb ?_
            have e : y.toArray ++ args.map (X.ev ρ) ++ z.toArray = (y ++ (args.map (X.ev ρ)).toList ++ z).toArray := by
              apply Array.ext'
              simp
            rw [e]
            exact hK
          · split at h
            · obtain ⟨_, _, h⟩ := bnd_call h
              obtain ⟨_, _, h⟩ := bnd_call h
              obtain ⟨_, _, h⟩ := bnd_call h
              (try simp only at h)
              split at h <;> cases h
            · cases h
        · cases h
      · cases h
    | alloc t =>
      simp only [heapV] at h
      obtain ⟨_, _, h⟩ := bnd_call h
      obtain ⟨_, _, h⟩ := bnd_call h
      cases h
    | box t x =>
      simp only [heapV] at h
      obtain ⟨_, _, h⟩ := bnd_call h
      obtain ⟨_, _, h⟩ := bnd_call h
      cases h
    | buildSlice t n ps =>
      simp only [heapV] at h
      obtain ⟨_, _, h⟩ := bnd_call h
      (try simp only at h)
      split at h
      · cases h
      · obtain ⟨_, _, h⟩ := bnd_call h
        obtain ⟨_, _, h⟩ := bnd_call h
        split at h <;> cases h
    | load t a =>
      simp only [heapV] at h
      obtain ⟨_, _, h⟩ := bnd_call h
      split at h
      · obtain ⟨_, _, h⟩ := bnd_call h; cases h
      · cases h
    | store t a x =>
      simp only [heapV] at h
      obtain ⟨_, _, h⟩ := bnd_call h
      obtain ⟨_, _, h⟩ := bnd_call h
      obtain ⟨_, _, h⟩ := bnd_call h
      obtain ⟨_, _, h⟩ := bnd_call h
      split at h
      · obtain ⟨_, _, h⟩ := bnd_call h; cases h
      · cases h
    | convert s d x =>
      simp only [heapV] at h
      obtain ⟨_, _, h⟩ := bnd_call h
      split at h
      · split at h
        · split at h <;> cases h
        · cases h
      · obtain ⟨_, _, h⟩ := bnd_call h
        split at h
        · split at h <;> cases h
        · split at h <;> cases h
        · cases h
      · cases h
    | makeSlice t x y =>
      simp only [heapV] at h
      obtain ⟨_, _, h⟩ := bnd_call h
      (try simp only at h)
      obtain ⟨_, _, h⟩ := bnd_call h
      obtain ⟨_, _, h⟩ := bnd_call h
      split at h
      · split at h <;> cases h
      · cases h
    | _ => simp [heapV] at h
end Go.E
