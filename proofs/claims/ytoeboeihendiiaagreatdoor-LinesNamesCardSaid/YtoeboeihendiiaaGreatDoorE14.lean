import Derived.Test.YtoeboeihendiiaaGreatDoorE13m
set_option linter.all false
namespace Go.E
open Go.X
attribute [local semireducible] Yl xop XL XD XF
variable {P : Program} {σ : Sig} {N : Nm} {E : T V} {ρ : X.Env} {L : Hp} {Z : Ex} {dst : Option Tmp} {ty : TypeId} {pos : String} {after : Array Edge} {guard : Option (Nat × Bool)}

theorem bnd_call {α : Type} {s : String} {x : Option α} {k : α → OR} {f : FuncId} {a : List V} (h : bnd s x k = .call f a) : ∃ a', x = some a' ∧ k a' = .call f a := by
  cases x with
  | none => simp [bnd] at h
  | some a => exact ⟨a, rfl, h⟩

theorem F2.length {α β : Type} {R : α → β → Prop} {l : List α} {m : List β} (f : F2 R l m) : l.length = m.length := by
  induction f with
  | nil => rfl
  | cons _ _ ih => simp [ih]

theorem bnd_round {α : Type} {s : String} {x : Option α} {k : α → OR} {j : Nat} {a : List V} (h : bnd s x k = .round j a) : ∃ a', x = some a' ∧ k a' = .round j a := by
  cases x with
  | none => simp [bnd] at h
  | some a => exact ⟨a, rfl, h⟩

theorem copyNil_sound {S : St} {tys : Array TypeId} {t e : TypeId} {sz m cap : Nat} {zl : List V} {new : List V} {w : V} {x : Value} (hr : SRel P N S L) (ht : tys[0]? = some t) (hel : elT P t = some (e, sz, zl))
    (hsrc : srcV P S sz w = some (m, new)) (hx : den N w = some x) :
    xwp P σ (Builtin.copy_ tys ty #[.slice none 0 cap, x]) (fun x L => Wk (Post P N S (.int .i64 0) x) L) L := by
  obtain ⟨z, by', h1, h2, h3, h4, h5, h6, h7, h8, zs, hzs, hzc, hzo⟩ := elT_spec (N := N) hel
  obtain ⟨xs, hxs, hxl, hlen, hfirst⟩ := srcV_spec (σ := σ) hr hsrc hx
  unfold Builtin.copy_
  simp only [List.getElem?_toArray, List.getElem?_cons_zero, List.getElem?_cons_succ, ht]
  rw [xwp_bind, xwp_underlying_eq, elemOfSl_spec h1]
  simp only [hlen, pure_bind]
  rw [xwp_bind, xwp_sizeOf_eq, h2]
  simp only
  rw [xwp_bind]
  refine xq_xwp _ (fun r hr' => ?_) (hfirst (Nat.min m 0) (Nat.min_le_left _ _))
  have hm0 : Nat.min m 0 = 0 := Nat.min_zero m
  rw [hm0]
  exact Wk.intro ⟨N, Ext.refl N, rfl, hr⟩

theorem zeroCells_rep (zs : List Value) (n : Nat) (hz : 0 < zs.length) : (Builtin.zeroCells zs.toArray n).toList = repL zs n := by
  have := range_rep zs n hz
  have e : (Builtin.zeroCells zs.toArray n) = (repL zs n).toArray := by
    rw [← this]
    rfl
  rw [e]

theorem clear_sound {S S' : St} {tys : Array TypeId} {t e : TypeId} {sz n cap k off b c : Nat} {zl : List V} (hr : SRel P N S L) (ht : tys[0]? = some t) (hel : elT P t = some (e, sz, zl)) (hk : N[k]? = some (b, c))
    (hS : storeV S k off (repL zl n) = some S') :
    xwp P σ (Builtin.clear_ tys ty #[.slice (some ⟨b, off, none⟩) n cap]) (fun x L => Wk (Post P N S' (.tup []) x) L) L := by
  obtain ⟨z, by', h1, h2, h3, h4, h5, h6, h7, h8, zs, hzs, hzc, hzo⟩ := elT_spec (N := N) hel
  have hzl := dens_len hzs
  obtain ⟨b', c', hk', L', hwr, hsr⟩ := storeV_wr hr hS (dens_rep hzs n)
  rw [hk] at hk'
  simp only [Option.some.injEq, Prod.mk.injEq] at hk'
  obtain ⟨rfl, rfl⟩ := hk'
  have hone : ∀ u ∈ repL zs n, u.oneCell = true := by
    intro u hu
    have : ∀ m, u ∈ repL zs m → u ∈ zs := by
      intro m
      induction m with
      | zero => intro h; cases h
      | succ m ih =>
        intro h
        rcases List.mem_append.1 h with h | h
        · exact h
        · exact ih h
    exact hzo u (this n hu)
  unfold Builtin.clear_
  simp only [List.getElem?_toArray, List.getElem?_cons_zero, List.getElem?_cons_succ, ht]
  rw [xwp_bind, xwp_underlying_eq, elemOfSl_spec h1]
  cases n with
  | zero =>
    have hS' : L' = L := by
      obtain ⟨_, cs, e', fz, _, _, A, B, rfl, rfl⟩ := hwr
      rfl
    subst hS'
    exact Wk.intro ⟨N, Ext.refl N, by simp [den, dens], hsr⟩
  | succ n =>
    simp only
    rw [xwp_bind, xwp_zeroValue_eq, h3]
    simp only
    rw [xwp_bind]
    have ez : (Builtin.zeroCells z.cells (n + 1)).toList = repL zs (n + 1) := by rw [hzc]; exact zeroCells_rep zs (n + 1) (by omega)
    rw [ez]
    have hadd : (⟨b, off, none⟩ : Addr).add 0 = ⟨b, off, none⟩ := by rw [add_mk, Nat.add_zero]
    refine xwp_storeCells (a := ⟨b, off, none⟩) (repL zs (n + 1)) 0 hone (by rw [hadd]; exact hwr) ?_ rfl
    exact Wk.intro ⟨N, Ext.refl N, by simp [den, dens], hsr⟩

theorem callH_sound (hz : ExOk P σ Z) (he : ERel N E ρ) {S S' : St} {c : Call} {v : V} (hr : SRel P N S L) (h : heapV P Z ⟨dst, .call c, ty, pos, after, guard⟩ E S = .val v S') : XV P σ N ⟨dst, .call c, ty, pos, after, guard⟩ ρ S' v L := by
  obtain ⟨cal, args, tys⟩ := c
  simp only [heapV] at h
  obtain ⟨l, hl, h⟩ := bnd_val h
  have hd := optMap_ev he hl
  split at h
  · -- append
    split at h
    · rename_i t t' s x htys
      split at h
      · rename_i hsrc
        obtain ⟨xs, xx, hargs, hs, hx⟩ := two_ev hd
        have key := append_sound (σ := σ) (ty := ty) (t' := t') hr (by assumption) hs hx h
        have htys' : tys = #[t, t'] := by apply Array.ext'; exact htys
        subst htys'
        refine xop_builtin (s := Builtin.append_ #[t, t'] ty #[xs, xx]) (fun cs => by rw [hargs]; rfl) ?_
        exact key
      · cases h
    · cases h
  · -- a string of bytes
    split at h
    · rename_i k off n
      obtain ⟨o, ho, h⟩ := bnd_val h
      obtain ⟨pt, hpt, h⟩ := bnd_val h
      split at h
      · rename_i u hu
        split at h
        · rename_i hlie hle
          obtain ⟨cl, hcl, h⟩ := bnd_val h
          obtain ⟨bs, hbs, h⟩ := bnd_val h
          simp only [OR.val.injEq] at h
          obtain ⟨rfl, rfl⟩ := h
          obtain ⟨xs, xx, hargs, hs, hx⟩ := two_ev hd
          obtain ⟨b, c, hk, rfl⟩ := den_ptr hs
          obtain rfl := den_int hx
          refine xop_builtin (s := Builtin.unsafeString_ tys ty #[.pointer (some ⟨b, off, none⟩), .int .i64 ((n + 1 : Nat) : Int)]) (fun cs => by rw [hargs]; rfl) ?_
          exact unsafeString_sound hr hk ho hpt (by assumption) (by assumption) (Nat.le_of_ble_eq_true (by assumption)) hcl hbs
        · cases h
      · cases h
    · cases h
  · -- copy
    split at h
    · rename_i t ts d x htys
      obtain ⟨⟨e, sz, zl⟩, hel, h⟩ := bnd_val h
      obtain ⟨⟨m, new⟩, hsrc, h⟩ := bnd_val h
      obtain ⟨xs, xx, hargs, hs, hx⟩ := two_ev hd
      have ht0 : tys[0]? = some t := by
        rw [← Array.getElem?_toList, htys]; rfl
      simp only at h
      split at h
      · rename_i k off n cap _ _
        obtain ⟨b, c, hk, rfl⟩ := den_sl hs
        refine xop_builtin (s := Builtin.copy_ tys ty #[.slice (some ⟨b, off, none⟩) n cap, xx]) (fun cs => by rw [hargs]; rfl) ?_
        exact copy_sound hr ht0 hel hsrc hx hk h
      · rename_i k off n lo _ _
        obtain ⟨b, c, hk, hle, rfl⟩ := den_osl hs
        refine xop_builtin (s := Builtin.copy_ tys ty #[.slice (some ⟨b, off, none⟩) n (c - lo), xx]) (fun cs => by rw [hargs]; rfl) ?_
        exact copy_sound hr ht0 hel hsrc hx hk h
      · rename_i cap _ _
        simp only [OR.val.injEq] at h
        obtain ⟨rfl, rfl⟩ := h
        have hs' := den_lit hs
        refine xop_builtin (s := Builtin.copy_ tys ty #[xs, xx]) (fun cs => by rw [hargs]; rfl) ?_
        rw [hs']
        exact copyNil_sound hr ht0 hel hsrc hx
      · cases h
    · cases h
  · -- clear
    split at h
    · rename_i t ts d htys
      obtain ⟨⟨e, sz, zl⟩, hel, h⟩ := bnd_val h
      obtain ⟨xs, hargs, hs⟩ := one_ev hd
      have ht0 : tys[0]? = some t := by
        rw [← Array.getElem?_toList, htys]; rfl
      simp only at h
      split at h
      · rename_i k off n cap _
        obtain ⟨S1, hS, h⟩ := bnd_val h
        simp only [OR.val.injEq] at h
        obtain ⟨rfl, rfl⟩ := h
        obtain ⟨b, c, hk, rfl⟩ := den_sl hs
        refine xop_builtin (s := Builtin.clear_ tys ty #[.slice (some ⟨b, off, none⟩) n cap]) (fun cs => by rw [hargs]; rfl) ?_
        exact clear_sound hr ht0 hel hk hS
      · rename_i k off n lo _
        obtain ⟨S1, hS, h⟩ := bnd_val h
        simp only [OR.val.injEq] at h
        obtain ⟨rfl, rfl⟩ := h
        obtain ⟨b, c, hk, hle, rfl⟩ := den_osl hs
        refine xop_builtin (s := Builtin.clear_ tys ty #[.slice (some ⟨b, off, none⟩) n (c - lo)]) (fun cs => by rw [hargs]; rfl) ?_
        exact clear_sound hr ht0 hel hk hS
      · rename_i n cap _
        simp only [OR.val.injEq] at h
        obtain ⟨rfl, rfl⟩ := h
        have hs' := den_lit hs
        obtain ⟨z, by', h1, _⟩ := elT_spec (N := N) hel
        refine xop_builtin (s := Builtin.clear_ tys ty #[xs]) (fun cs => by rw [hargs]; rfl) ?_
        rw [hs']
        unfold Builtin.clear_
        simp only [List.getElem?_toArray, List.getElem?_cons_zero, ht0]
        rw [xwp_bind, xwp_underlying_eq, elemOfSl_spec h1]
        exact Wk.intro ⟨N, Ext.refl N, by simp [den, dens], hr⟩
      · cases h
    · cases h
  · -- delete
    split at h
    · rename_i t ts j kv htys
      obtain ⟨xs, xx, hargs, hs, hx⟩ := two_ev hd
      have ht0 : tys[0]? = some t := by
        rw [← Array.getElem?_toList, htys]; rfl
      split at h
      · rename_i kt et es ck hmt hkob
        split at h
        · rename_i hok
          obtain ⟨r, hfd, h⟩ := bnd_val h
          obtain ⟨b, c, hj, rfl⟩ := den_mp hs
          refine xop_builtin (s := Builtin.delete_ tys ty #[.map (some b), xx]) (fun cs => by rw [hargs]; rfl) ?_
          exact del_sound hr ht0 (by assumption) hj hx (by assumption) hok hfd h
        · cases h
      · cases h
    · cases h
  · -- a map's length
    split at h
    · rename_i t j htys
      obtain ⟨xs, hargs, hs⟩ := one_ev hd
      split at h
      · rename_i mt es ck hmt hkob
        simp only [OR.val.injEq] at h
        obtain ⟨rfl, rfl⟩ := h
        obtain ⟨kt, et⟩ := mt
        have hmt' : mapT P t = some (kt, et) := by assumption
        have hkob' : kob S j = some (.map es ck) := by assumption
        obtain ⟨b, c, hj, rfl⟩ := den_mp hs
        have ht0 : tys[0]? = some t := by
          rw [← Array.getElem?_toList, htys]; rfl
        obtain ⟨b', c', o', hj', hmem, ⟨ms, rfl, hF⟩, _⟩ := hr.atK hkob'
        rw [hj] at hj'
        simp only [Option.some.injEq, Prod.mk.injEq] at hj'
        obtain ⟨rfl, rfl⟩ := hj'
        have hlen : es.length = ms.length := hF.length
        refine xop_builtin (s := Builtin.len_ tys ty #[.map (some b)]) (fun cs => by rw [hargs]; rfl) ?_
        unfold Builtin.len_
        simp only [List.getElem?_toArray, List.getElem?_cons_zero, ht0]
        rw [xwp_bind, xwp_underlying_eq, mapT_spec hmt']
        simp only
        rw [xwp_bind]
        refine ⟨_, .inr hmem, trivial, ?_⟩
        refine Wk.intro ⟨N, Ext.refl N, ?_, hr⟩
        simp [den, goInt, hlen]
      · cases h
    · cases h
  · cases h
  · -- a function
    rename_i f
    obtain ⟨fv, hf, h⟩ := bnd_val h
    split at h
    · rename_i f' first cap
      split at h
      · cases h
      · split at h
        · rename_i n hmn _
          obtain ⟨fn, hfn, h⟩ := bnd_val h
          obtain ⟨t, ht, h⟩ := bnd_val h
          obtain ⟨⟨e, sz, zl⟩, hel, h⟩ := bnd_val h
          simp only at h
          split at h
          · rename_i hc
            have hc' : (Nat.ble n (2 ^ 30) && Nat.beq sz 1) = true := by assumption
            simp only [Bool.and_eq_true] at hc'
            have hc1 := Nat.le_of_ble_eq_true hc'.1
            have hc2 := Nat.eq_of_beq_eq_true hc'.2
            subst hc2
            simp only [OR.val.injEq] at h
            obtain ⟨rfl, rfl⟩ := h
            have hmn' := Nat.eq_of_beq_eq_true (show Nat.beq f' Z.mn = true by assumption)
            subst hmn'
            obtain ⟨y, z, hy, hz', hx⟩ := den_fn (evV_den he hf)
            simp [dens] at hy hz'
            subst hy; subst hz'
            obtain ⟨x, hargs, hxx⟩ := one_ev hd
            obtain rfl := den_int hxx
            have key := noZero_sound (σ := σ) hr hz hfn ht hel hc1
            unfold XV xop
            simp only [execOp, resolve, hx, Deferred.ofValue, pure_bind, invoke, hargs]
            exact key
          · cases h
        · cases h
    · cases h
    · cases h
  · cases h

theorem lookup_sound (he : ERel N E ρ) {S S' : St} {t : TypeId} {m k : Operand} {ok : Bool} {v : V} (hr : SRel P N S L) (h : heapV P Z ⟨dst, .lookup t m k ok, ty, pos, after, guard⟩ E S = .val v S') : XV P σ N ⟨dst, .lookup t m k ok, ty, pos, after, guard⟩ ρ S' v L := by
  simp only [heapV] at h
  obtain ⟨mv, hm, h⟩ := bnd_val h
  obtain ⟨kv, hk, h⟩ := bnd_val h
  unfold XV xop
  simp only [execOp]
  rw [xv]
  exact getM_sound hr (evV_den he hm) (evV_den he hk) h

theorem setM_undef {S S' : St} {t : TypeId} {m k x v : V} (h : setM P t m k x S = .val v S') : v = .lit undef := by
  unfold setM at h
  split at h
  · split at h
    · obtain ⟨r, _, h⟩ := bnd_val h
      cases r with
      | none => simp only [OR.val.injEq] at h; exact h.1.symm
      | some q => simp only [OR.val.injEq] at h; exact h.1.symm
    · cases h
  · cases h

theorem mapSet_sound (he : ERel N E ρ) {S S' : St} {t : TypeId} {m k x : Operand} {op : Op} {v : V} (hop : op = .mapUpdate t m k x ∨ op = .insert t m k x) (hr : SRel P N S L) (h : heapV P Z ⟨dst, op, ty, pos, after, guard⟩ E S = .val v S') : XV P σ N ⟨dst, op, ty, pos, after, guard⟩ ρ S' v L := by
  rcases hop with rfl | rfl <;>
  · simp only [heapV] at h
    obtain ⟨mv, hm, h⟩ := bnd_val h
    obtain ⟨kv, hk, h⟩ := bnd_val h
    obtain ⟨xv', hx, h⟩ := bnd_val h
    unfold XV xop
    simp only [execOp]
    rw [xu]
    exact setM_sound hr (evV_den he hm) (evV_den he hk) (evV_den he hx) h

theorem heapV_sound (hz : ExOk P σ Z) (he : ERel N E ρ) {S S' : St} {o : Oper} {v : V} (hr : SRel P N S L) (h : heapV P Z o E S = .val v S') : XV P σ N o ρ S' v L := by
  obtain ⟨dst, op, ty, pos, after, guard⟩ := o
  cases op with
  | load t a => exact load_sound hz he hr h
  | store t a x => exact store_sound he hr h
  | convert s d x => exact convertH_sound he hr h
  | lookup t m k ok => exact lookup_sound he hr h
  | mapUpdate t m k x => exact mapSet_sound he (.inl rfl) hr h
  | insert t m k x => exact mapSet_sound he (.inr rfl) hr h
  | call c => exact callH_sound hz he hr h
  | _ => simp [heapV] at h

theorem opV_sound (hz : ExOk P σ Z) (he : ERel N E ρ) {S S' : St} {o : Oper} {v : V} (hr : SRel P N S L) (h : opV P Z o E S = .val v S') : XV P σ N o ρ S' v L := by
  unfold opV at h
  split at h
  · rename_i w hw
    simp only [OR.val.injEq] at h
    obtain ⟨rfl, rfl⟩ := h
    obtain ⟨x, hd, hy⟩ := pureV_sound (σ := σ) hz he hw
    exact xop_of_Yl (hy L) (Wk.intro ⟨N, Ext.refl N, hd, hr⟩)
  · split at h
    · rename_i ob w hal
      simp only [OR.val.injEq] at h
      obtain ⟨rfl, rfl⟩ := h
      obtain ⟨obj, vv, hmk, hab⟩ := allocV_sound (σ := σ) he hal
      unfold XV xop
      refine hmk _ _ fun b => ?_
      obtain ⟨h1, h2⟩ := hab (N ++ [(b, 0)]) S.nx b (Ext.app _ _) (new_name hr b 0)
      exact Wk.intro ⟨N ++ [(b, 0)], Ext.app _ _, h1, hr.new h2⟩
    · exact heapV_sound hz he hr h

/-- does it tell a value, or nothing? -/
def isVal : OR → Bool
  | .val _ _ => true
  | .fail _ => true
  | _ => false

theorem bnd_isVal {α : Type} {s : String} {x : Option α} {k : α → OR} (h : ∀ a, isVal (k a) = true) : isVal (bnd s x k) = true := by
  cases x with
  | none => rfl
  | some a => exact h a

theorem appV_isVal {S : St} {t : TypeId} {s x : V} : isVal (appV P S t s x) = true := by
  unfold appV
  refine bnd_isVal fun ⟨e, sz, zl⟩ => bnd_isVal fun ⟨m, new⟩ => ?_
  simp only
  split
  · rfl
  · split
    · split
      · rfl
      · split <;> rfl
    · split
      · exact bnd_isVal fun _ => rfl
      · refine bnd_isVal fun _ => bnd_isVal fun _ => ?_
        split <;> rfl
    · refine bnd_isVal fun _ => ?_
      split
      · exact bnd_isVal fun _ => rfl
      · refine bnd_isVal fun _ => ?_
        split <;> rfl
    · rfl

theorem copyV_isVal {S : St} {k off n sz m : Nat} {new : List V} : isVal (copyV S k off n sz m new) = true := by
  unfold copyV
  split
  · exact bnd_isVal fun _ => rfl
  · rfl

theorem setM_isVal {S : St} {t : TypeId} {m k x : V} : isVal (setM P t m k x S) = true := by
  unfold setM
  split
  · split
    · refine bnd_isVal fun r => ?_
      cases r <;> rfl
    · rfl
  · rfl

theorem getM_isVal {S : St} {t : TypeId} {m k : V} {ok : Bool} : isVal (getM P t m k ok S) = true := by
  unfold getM
  refine bnd_isVal fun ⟨kt, et⟩ => bnd_isVal fun z => bnd_isVal fun es => ?_
  split
  · refine bnd_isVal fun r => ?_
    cases r <;> rfl
  · rfl

/-- what calls: a function with a body, or a round -/
theorem heapV_calls {S : St} {o : Oper} (h : isVal (heapV P Z o E S) = false) :
    ∃ c f args, o.op = .call c ∧ c.callee = .value f ∧ optMap (evV E) c.args.toList = some args ∧
      ((∃ g first cap, evV E f = some (.fn (.func g) first cap) ∧ hasBody P g = true ∧ heapV P Z o E S = .call g (first ++ args ++ cap)) ∨ ∃ k, evV E f = some (.yld k) ∧ heapV P Z o E S = .round k args) := by
  obtain ⟨dst, op, ty, pos, after, guard⟩ := o
  have bad : ∀ {x : OR}, isVal x = true → isVal x = false → False := fun h1 h2 => by rw [h1] at h2; cases h2
  cases op with
  | call c =>
    obtain ⟨cal, args, tys⟩ := c
    simp only [heapV] at h ⊢
    cases hargs : optMap (evV E) args.toList with
    | none => simp [hargs, bnd, isVal] at h
    | some al =>
      simp only [hargs, bnd] at h ⊢
      cases cal with
      | builtin b =>
        exfalso
        refine bad ?_ h
        cases b <;> simp only
        all_goals first
          | rfl
          | (split
             · split
               · exact appV_isVal
               · rfl
             · rfl)
          | (split
             · refine bnd_isVal fun _ => bnd_isVal fun _ => ?_
               split
               · split
                 · exact bnd_isVal fun _ => bnd_isVal fun _ => rfl
                 · rfl
               · rfl
             · rfl)
          | (split
             · refine bnd_isVal fun ⟨_, _, _⟩ => bnd_isVal fun ⟨_, _⟩ => ?_
               simp only
               split
               · exact copyV_isVal
               · exact copyV_isVal
               · rfl
               · rfl
             · rfl)
          | (split
             · refine bnd_isVal fun ⟨_, _, _⟩ => ?_
               simp only
               split
               · exact bnd_isVal fun _ => rfl
               · exact bnd_isVal fun _ => rfl
               · rfl
               · rfl
             · rfl)
          | (split
             · split
               · split
                 · refine bnd_isVal fun r => ?_
                   cases r <;> rfl
                 · rfl
               · rfl
             · rfl)
          | (split
             · split <;> rfl
             · rfl)
      | invoke r m => simp [isVal] at h
      | value f =>
        simp only at h ⊢
        cases hf : evV E f with
        | none => simp [hf, bnd, isVal] at h
        | some fv =>
          simp only [hf, bnd] at h ⊢
          refine ⟨_, f, al, rfl, rfl, hargs, ?_⟩
          split at h
          · rename_i g first cap
            split at h
            · rename_i hb
              exact .inl ⟨g, first, cap, hf, hb, by simp only [hb]⟩
            · exfalso
              refine bad ?_ h
              split
              · refine bnd_isVal fun _ => bnd_isVal fun _ => bnd_isVal fun ⟨_, _, _⟩ => ?_
                simp only
                split <;> rfl
              · rfl
          · rename_i k
            exact .inr ⟨k, hf, rfl⟩
          · cases h
  | load t a =>
    exfalso
    refine bad ?_ h
    simp only [heapV]
    refine bnd_isVal fun a => ?_
    split
    · exact bnd_isVal fun _ => rfl
    · split
      · exact bnd_isVal fun _ => rfl
      · rfl
    · rfl
  | store t a x =>
    exfalso
    refine bad ?_ h
    simp only [heapV]
    refine bnd_isVal fun a => bnd_isVal fun v => bnd_isVal fun l => bnd_isVal fun n => ?_
    split
    · exact bnd_isVal fun _ => rfl
    · rfl
  | convert s d x =>
    exfalso
    refine bad ?_ h
    simp only [heapV]
    refine bnd_isVal fun v => ?_
    split
    · split
      · split <;> rfl
      · rfl
    · split
      · exact bnd_isVal fun _ => rfl
      · rfl
    · refine bnd_isVal fun o => ?_
      split
      · split <;> rfl
      · split <;> rfl
      · rfl
    · rfl
  | lookup t m k ok => exact (bad (by simp only [heapV]; exact bnd_isVal fun _ => bnd_isVal fun _ => getM_isVal) h).elim
  | mapUpdate t m k x => exact (bad (by simp only [heapV]; exact bnd_isVal fun _ => bnd_isVal fun _ => bnd_isVal fun _ => setM_isVal) h).elim
  | insert t m k x => exact (bad (by simp only [heapV]; exact bnd_isVal fun _ => bnd_isVal fun _ => bnd_isVal fun _ => setM_isVal) h).elim
  | _ => simp [heapV, isVal] at h

/-- a call of a function with a body -/
theorem opV_call (he : ERel N E ρ) {S : St} {o : Oper} {f : FuncId} {l : List V} (h : opV P Z o E S = .call f l) :
    ∃ xs, dens N l = some xs ∧ ∀ K : Value → Hp → Prop, X.Spec P σ f xs.toArray K L → xop P σ o ρ K L := by
  unfold opV at h
  split at h
  · cases h
  · split at h
    · cases h
    · obtain ⟨c, fo, args, hop, hcal, hargs, ⟨g, first, cap, hf, hb, h2⟩ | ⟨k, hf, h2⟩⟩ := heapV_calls (P := P) (Z := Z) (o := o) (E := E) (S := S) (by rw [h]; rfl)
      · rw [h] at h2
        simp only [OR.call.injEq] at h2
        obtain ⟨rfl, rfl⟩ := h2
        obtain ⟨dst, op, ty, pos, after, guard⟩ := o
        simp only at hop
        subst hop
        obtain ⟨cal, as, tys⟩ := c
        simp only at hcal hargs
        subst hcal
        have hd := optMap_ev he hargs
        obtain ⟨y, z, hy, hz', hx⟩ := den_fn (evV_den he hf)
        refine ⟨y ++ (as.map (X.ev ρ)).toList ++ z, dens_append (dens_append hy hd) hz', fun K hK => ?_⟩
        refine xop_callv hx hb ?_
        have e : y.toArray ++ as.map (X.ev ρ) ++ z.toArray = (y ++ (as.map (X.ev ρ)).toList ++ z).toArray := by
          apply Array.ext'
          simp
        rw [e]
        exact hK
      · rw [h] at h2; cases h2

/-- a round -/
theorem opV_round (he : ERel N E ρ) {S : St} {o : Oper} {k : Nat} {l : List V} (h : opV P Z o E S = .round k l) :
    ∃ c f, o.op = .call c ∧ c.callee = .value f ∧ den N (.yld k) = some (X.ev ρ f) ∧ dens N l = some (c.args.map (X.ev ρ)).toList := by
  unfold opV at h
  split at h
  · cases h
  · split at h
    · cases h
    · obtain ⟨c, fo, args, hop, hcal, hargs, ⟨g, first, cap, hf, hb, h2⟩ | ⟨k', hf, h2⟩⟩ := heapV_calls (P := P) (Z := Z) (o := o) (E := E) (S := S) (by rw [h]; rfl)
      · rw [h] at h2; cases h2
      · rw [h] at h2
        simp only [OR.round.injEq] at h2
        obtain ⟨rfl, rfl⟩ := h2
        exact ⟨c, fo, hop, hcal, evV_den he hf, optMap_ev he hargs⟩
end Go.E
