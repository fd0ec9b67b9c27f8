import Derived.Test.YtoeboeihendiiaaGreatDoorE6h
set_option linter.all false
namespace Go.E
open Go.X
attribute [local semireducible] Yl xop
variable {P : Program} {σ : Sig} {N : Nm} {E : T V} {ρ : X.Env} {L : Hp} {Z : Ex} {dst : Option Tmp} {ty : TypeId} {pos : String} {after : Array Edge} {guard : Option (Nat × Bool)}

/-- functions without a body that the evaluator knows -/
structure ExOk (P : Program) (σ : Sig) (Z : Ex) : Prop where
  gl : ∀ g off v, Z.gl g off = some v → v.oneCell = true ∧ ∃ c e fz, σ.ro g = some (.cells c e fz) ∧ c[off]? = some v
  orc : ∀ f args v, Z.orc f args = some v → ∃ x, (∀ N, den N v = some x) ∧ ∀ N xs, dens N args = some xs → X.Spec P σ f xs.toArray (fun y _ => y = x) []
  orh : ∀ f args S v S', Z.orh f args S = some (v, S') → HeapOk P σ f args S v S'
  ne : ∀ fn, P.funcs[Z.ne]? = some fn → fn.body = none ∧ (fn.name == "runtime.NumGoroutine") = false ∧ Extern.findNext fn = none ∧ Extern.find fn = some Extern.AbiNoEscape.same
  mn : ∀ fn, P.funcs[Z.mn]? = some fn → fn.body = none ∧ (fn.name == "runtime.NumGoroutine") = false ∧ Extern.findNext fn = none ∧ Extern.find fn = some (Extern.BytealgMakeNoZero.makeNoZero fn.params fn.resultTypes)

theorem runP_sureAddr {a : Addr} : runP P (Instr.sureAddr (.pointer (some a))) = some a := rfl

theorem mapM_fields (fs : List Field) (h : ∀ f ∈ fs, (szT P f.type).isSome) :
    runP P (fs.mapM fun (f : Field) => do pure (f.offset, ← sizeOf f.type)) = some (fs.map fun (f : Field) => (f.offset, (szT P f.type).getD 0)) := by
  induction fs with
  | nil => rfl
  | cons f fs ih =>
    simp only [List.mapM_cons, runP_bind, runP_sizeOf]
    have h0 := h f (by simp)
    cases hz : szT P f.type with
    | none => simp [hz] at h0
    | some n =>
      simp only [Option.bind_some, runP_pure]
      rw [ih fun g hg => h g (by simp [hg])]
      simp [hz]

theorem runP_map {α β : Type} {f : α → β} {s : Sem α} : runP P (f <$> s) = (runP P s).map f := by
  show runP P (s.bind fun a => pure (f a)) = _
  have := runP_bind (P := P) s (fun a => (pure (f a) : Sem β))
  refine Eq.trans this ?_
  cases runP P s <;> rfl

theorem runP_zeroValue {t : TypeId} : runP P (zeroValue t) = zeroT P t := by
  unfold zeroValue typeInfo zeroT
  rw [runP_bind, runP_bind]
  show (runP P _).bind _ = _
  cases P.info? t with
  | none => rfl
  | some i => cases h : i.zero <;> simp [runP_pure, h] <;> rfl

theorem runP_build {t : TypeId} {vs : List (Nat × Value)} {cs : Array Value} (hall : allSz P t = true) (h : fillOk P t vs = some cs) :
    runP P (Instr.build t vs.toArray) = some (.agg cs) := by
  unfold Instr.build
  unfold fillOk at h
  unfold allSz at hall
  cases hz : zeroT P t with
  | none => simp [hz] at h
  | some z =>
    simp only [hz] at h
    rw [runP_bind, runP_zeroValue, hz]
    simp only [Option.bind_some]
    unfold placesT at h
    cases hu : P.underlying t with
    | none => simp [hu] at h
    | some d =>
      rw [runP_bind, runP_underlying, hu]
      cases d <;> simp only [hu] at h hall <;> first | (cases hall; done) | skip
      · rename_i n e
        cases hs : szT P e with
        | none => simp [hs] at h
        | some m =>
          simp only [hs, Option.map_some] at h
          simp only [Option.bind_some]
          rw [runP_bind, runP_sizeOf, hs]
          simp only [Option.bind_some, h]
          rfl
      · rename_i fs
        obtain ⟨fl, rfl⟩ : ∃ fl : List Field, fs = fl.toArray := ⟨fs.toList, by simp⟩
        simp only [Option.bind_some]
        simp only [List.all_eq_true] at hall
        rw [runP_bind, List.mapM_toArray, runP_map, mapM_fields fl hall]
        simp only [Option.map_some, Option.bind_some]
        have : Instr.fill ((fl.map fun (f : Field) => (f.offset, (szT P f.type).getD 0)).toArray[·]?) z.cells vs = some cs := by
          rw [← h]
          refine fill_congr (fun i => ?_) _ _
          simp only [List.getElem?_toArray, List.getElem?_map]
          cases hf : fl[i]? with
          | none => rfl
          | some f =>
            have := hall f (List.mem_of_getElem? hf)
            cases hz : szT P f.type with
            | none => simp [hz] at this
            | some n => simp [hz]
        simp only [this]
        rfl

theorem optMap_parts (he : ERel N E ρ) {ps : List (Nat × Operand)} {l : List (Nat × V)} (h : optMap (fun (i, x) => (evV E x).map fun v => (i, v)) ps = some l) :
    ps.map (fun p => (p.1, X.ev ρ p.2)) = l.map (fun p => (p.1, (den N p.2).getD undef)) ∧ ∀ p ∈ l, den N p.2 = some ((den N p.2).getD undef) := by
  obtain ⟨h1, h2⟩ := optMap_spec.1 h
  have key : ∀ (i : Nat) (q : Nat × V), l[i]? = some q → ∃ p, ps[i]? = some p ∧ q.1 = p.1 ∧ den N q.2 = some (X.ev ρ p.2) := by
    intro i q hq
    have hi : i < ps.length := by rw [← h1]; exact (List.getElem?_eq_some_iff.1 hq).1
    obtain ⟨b, hb, hf⟩ := h2 i _ (List.getElem?_eq_getElem hi)
    rw [hq] at hb
    simp only [Option.some.injEq] at hb
    subst hb
    cases hv : evV E ps[i].2 with
    | none => simp [hv] at hf
    | some v =>
      simp [hv] at hf
      exact ⟨ps[i], List.getElem?_eq_getElem hi, by rw [← hf], by rw [← hf]; exact evV_den he hv⟩
  constructor
  · apply List.ext_getElem?
    intro i
    simp only [List.getElem?_map]
    by_cases hi : i < l.length
    · obtain ⟨p, hp, h3, h4⟩ := key i _ (List.getElem?_eq_getElem hi)
      rw [hp, List.getElem?_eq_getElem hi]
      simp [h3, h4]
    · rw [List.getElem?_eq_none (by omega), List.getElem?_eq_none (by omega)]; rfl
  · intro p hp
    obtain ⟨i, hi, hq⟩ := List.getElem_of_mem hp
    obtain ⟨p', _, _, h4⟩ := key i p (by rw [← hq]; exact List.getElem?_eq_getElem hi)
    rw [h4]; rfl

theorem runP_part {t : TypeId} {cs : List Value} {off n : Nat} (ht : isAggT P t = some true) (hn : szT P t = some n) : runP P (part t cs.toArray off) = some (.agg ((cs.drop off).take n).toArray) := by
  unfold part
  rw [runP_bind, runP_isAgg, ht]
  simp only [Option.bind_some, if_true]
  rw [runP_bind, runP_sizeOf, hn]
  show some (Value.agg _) = _
  congr 2
  apply Array.ext'
  simp [List.extract]

theorem runP_part1 {t : TypeId} {cs : List Value} {off : Nat} {v : Value} (ht : isAggT P t = some false) (hn : cs[off]? = some v) : runP P (part t cs.toArray off) = some v := by
  unfold part
  rw [runP_bind, runP_isAgg, ht]
  simp only [Option.bind_some, Bool.false_eq_true, if_false]
  simp only [List.getElem?_toArray, hn]
  rfl

theorem pick_sound (he : ERel N E ρ) {c a b : Operand} {v : V} (h : pureV P Z ⟨dst, .pick c a b, ty, pos, after, guard⟩ E = some v) : Yd P σ N ⟨dst, .pick c a b, ty, pos, after, guard⟩ ρ v := by
  simp only [pureV] at h
  split at h
  · rename_i hc
    have := den_bool (evV_den he hc)
    exact ⟨_, evV_den he h, fun L => by simpa using Yl.pick (P := P) (σ := σ) (L := L) (dst := dst) (ty := ty) (pos := pos) (after := after) (guard := guard) (a := a) (b := b) this⟩
  · rename_i hc
    have := den_bool (evV_den he hc)
    exact ⟨_, evV_den he h, fun L => by simpa using Yl.pick (P := P) (σ := σ) (L := L) (dst := dst) (ty := ty) (pos := pos) (after := after) (guard := guard) (a := a) (b := b) this⟩
  · cases h

theorem nilCheck_sound (he : ERel N E ρ) {x : Operand} {v : V} (h : pureV P Z ⟨dst, .nilCheck x, ty, pos, after, guard⟩ E = some v) : Yd P σ N ⟨dst, .nilCheck x, ty, pos, after, guard⟩ ρ v := by
  simp only [pureV] at h
  split at h
  · rename_i k off hx
    simp only [Option.some.injEq] at h
    subst h
    have hd := evV_den he hx
    obtain ⟨b, c, hk, hx'⟩ := den_ptr hd
    exact ⟨_, hd, fun L => Yl.nilCheck rfl (by rw [hx']; rfl)⟩
  · rename_i f a b hx
    simp only [Option.some.injEq] at h
    subst h
    have hd := evV_den he hx
    obtain ⟨y, z, _, _, hx'⟩ := den_fn hd
    exact ⟨_, hd, fun L => Yl.nilCheck rfl (by rw [hx']; rfl)⟩
  · rename_i t w hx
    simp only [Option.some.injEq] at h
    subst h
    have hd := evV_den he hx
    obtain ⟨y, _, hx'⟩ := den_ifc hd
    exact ⟨_, hd, fun L => Yl.nilCheck rfl (by rw [hx']; rfl)⟩
  · cases h

theorem build_sound (he : ERel N E ρ) {t : TypeId} {ps : Array (Nat × Operand)} {v : V} (h : pureV P Z ⟨dst, .build t ps, ty, pos, after, guard⟩ E = some v) : Yd P σ N ⟨dst, .build t ps, ty, pos, after, guard⟩ ρ v := by
  simp only [pureV] at h
  split at h
  · rename_i z pl l hz hpl hl
    split at h
    · rename_i hall
      split at h
      · rename_i zl hzl
        cases hf : vfill pl zl l with
        | none => simp [hf] at h
        | some r =>
          simp only [hf, Option.map_some, Option.some.injEq] at h
          subst h
          have hd := den_toV N z
          rw [hzl] at hd
          obtain ⟨zs, hzs, rfl⟩ := den_agg hd
          obtain ⟨h1, h2⟩ := optMap_parts he hl
          obtain ⟨xs, hxs, hfill⟩ := vfill_spec (f := fun v => (den N v).getD undef) hf hzs h2
          refine Yd.v (mk_agg hxs) rfl ?_
          have e : (ps.map fun (x : Nat × Operand) => (x.1, X.ev ρ x.2)) = (ps.toList.map fun (x : Nat × Operand) => (x.1, X.ev ρ x.2)).toArray := by
            apply Array.ext'; simp
          show runP P (Instr.build t (ps.map fun (x : Nat × Operand) => (x.1, X.ev ρ x.2))) = _
          rw [e, h1]
          refine runP_build hall ?_
          unfold fillOk
          simp only [hz, hpl]
          exact hfill
      · cases h
    · cases h
  · cases h

theorem un_sound (he : ERel N E ρ) {op : UnOp} {t : TypeId} {x : Operand} {v : V} (h : pureV P Z ⟨dst, .unOp op t x, ty, pos, after, guard⟩ E = some v) : Yd P σ N ⟨dst, .unOp op t x, ty, pos, after, guard⟩ ρ v := by
  simp only [pureV] at h
  split at h
  · rename_i u hu
    cases hx : evV E x with
    | none => simp [hx] at hu
    | some w =>
      simp only [hx, Option.bind_some] at hu
      have := ofV_eq hu (evV_den he hx)
      subst this
      cases hr : runP P (Op.unary op (X.ev ρ x)) with
      | none => simp [hr] at h
      | some r =>
        simp only [hr, Option.map_some, Option.some.injEq] at h
        subst h
        exact Yd.v (den_toV N r) rfl hr
  · cases h

theorem conv_sound (he : ERel N E ρ) {s d : TypeId} {x : Operand} {v : V} (h : pureV P Z ⟨dst, .convert s d x, ty, pos, after, guard⟩ E = some v) : Yd P σ N ⟨dst, .convert s d x, ty, pos, after, guard⟩ ρ v := by
  simp only [pureV] at h
  split at h
  · rename_i u hu
    cases hx : evV E x with
    | none => simp [hx] at hu
    | some w =>
      simp only [hx, Option.bind_some] at hu
      have := ofV_eq hu (evV_den he hx)
      subst this
      cases hr : runP P (convert s d (X.ev ρ x)) with
      | none => simp [hr] at h
      | some r =>
        simp only [hr, Option.map_some, Option.some.injEq] at h
        subst h
        exact Yd.v (den_toV N r) rfl hr
  · cases h

theorem iface_sound (he : ERel N E ρ) {t : TypeId} {x : Operand} {v : V} (h : pureV P Z ⟨dst, .makeInterface t x, ty, pos, after, guard⟩ E = some v) : Yd P σ N ⟨dst, .makeInterface t x, ty, pos, after, guard⟩ ρ v := by
  simp only [pureV] at h
  split at h
  · cases h
  · rename_i w d hd hx hu
    simp only [Option.some.injEq] at h
    subst h
    refine Yd.v (mk_ifc (evV_den he hx)) rfl ?_
    unfold Instr.makeInterface
    rw [runP_bind, runP_underlying, hu]
    simp only [Option.bind_some]
    cases d <;> first | rfl | (exact absurd hu (hd _))
  · cases h

theorem func_sound (he : ERel N E ρ) {f : Fn} {a b : Array Operand} {v : V} (h : pureV P Z ⟨dst, .makeFunc f a b, ty, pos, after, guard⟩ E = some v) : Yd P σ N ⟨dst, .makeFunc f a b, ty, pos, after, guard⟩ ρ v := by
  simp only [pureV] at h
  split at h
  · rename_i l m hl hm
    simp only [Option.some.injEq] at h
    subst h
    have e := mk_fn (f := f) (optMap_ev he hl) (optMap_ev he hm)
    rw [Array.toArray_toList, Array.toArray_toList] at e
    exact ⟨_, e, fun L => Yl.makeFunc⟩
  · cases h

theorem fieldAddr_sound (he : ERel N E ρ) {s : TypeId} {x : Operand} {f : Nat} {v : V} (h : pureV P Z ⟨dst, .fieldAddr s x f, ty, pos, after, guard⟩ E = some v) : Yd P σ N ⟨dst, .fieldAddr s x f, ty, pos, after, guard⟩ ρ v := by
  simp only [pureV] at h
  split at h
  · rename_i k off hx
    obtain ⟨b, c, hk, hx'⟩ := den_ptr (evV_den he hx)
    cases hf : fldOff P s f with
    | none => simp [hf] at h
    | some d =>
      simp only [hf, Option.map_some, Option.some.injEq] at h
      subst h
      exact ⟨_, mk_ptr hk, fun L => Yl.fa hf hx'⟩
  · cases h

theorem field_sound (he : ERel N E ρ) {s : TypeId} {x : Operand} {f : Nat} {v : V} (h : pureV P Z ⟨dst, .field s x f, ty, pos, after, guard⟩ E = some v) : Yd P σ N ⟨dst, .field s x f, ty, pos, after, guard⟩ ρ v := by
  simp only [pureV] at h
  split at h
  · rename_i l fs hx hu
    obtain ⟨y, hy, hx'⟩ := den_agg (evV_den he hx)
    split at h
    · rename_i fd hfd
      have red : runP P (Instr.field s (X.ev ρ x) f) = runP P (part fd.type y.toArray fd.offset) := by
        unfold Instr.field
        rw [runP_bind, runP_underlying, hu]
        simp only [Option.bind_some, hfd]
        rw [runP_bind, hx']
        rfl
      split at h
      · rename_i n ha hn
        simp only [Option.some.injEq] at h
        subst h
        exact Yd.v (mk_agg (dens_take (dens_drop hy _) _)) rfl (red.trans (runP_part ha hn))
      · rename_i ha
        obtain ⟨x', hx2, hd⟩ := dens_get hy h
        exact Yd.v hd rfl (red.trans (runP_part1 ha hx2))
      · cases h
    · cases h
  · cases h

theorem indexAddr_sound (he : ERel N E ρ) {t : TypeId} {x ix : Operand} {v : V} (h : pureV P Z ⟨dst, .indexAddr t x ix, ty, pos, after, guard⟩ E = some v) : Yd P σ N ⟨dst, .indexAddr t x ix, ty, pos, after, guard⟩ ρ v := by
  simp only [pureV] at h
  split at h
  · rename_i k off n c ik i hx hi
    obtain ⟨b, cc, hk, hx'⟩ := den_sl (evV_den he hx)
    have hi' := den_int (evV_den he hi)
    split at h
    · rename_i sz hsz
      obtain ⟨e, h1, h2⟩ := elsz hsz
      split at h
      · rename_i hlt
        have hlt := Nat.le_of_ble_eq_true hlt
        simp only [Option.some.injEq] at h
        subst h
        exact ⟨_, mk_ptr hk, fun L => Yl.indexAddr_slice h1 h2 hx' hi' (by simp) (by simp; omega)⟩
      · cases h
    · cases h
  · rename_i k off n c ik i hx hi
    obtain ⟨b, cc, hk, _, hx'⟩ := den_osl (evV_den he hx)
    have hi' := den_int (evV_den he hi)
    split at h
    · rename_i sz hsz
      obtain ⟨e, h1, h2⟩ := elsz hsz
      split at h
      · rename_i hlt
        have hlt := Nat.le_of_ble_eq_true hlt
        simp only [Option.some.injEq] at h
        subst h
        exact ⟨_, mk_ptr hk, fun L => Yl.indexAddr_slice h1 h2 hx' hi' (by simp) (by simp; omega)⟩
      · cases h
    · cases h
  · rename_i k off ik i hx hi
    obtain ⟨b, cc, hk, hx'⟩ := den_ptr (evV_den he hx)
    have hi' := den_int (evV_den he hi)
    split at h
    · rename_i n e ht
      split at h
      · rename_i sz hsz
        split at h
        · rename_i hlt
          have hlt := Nat.le_of_ble_eq_true hlt
          simp only [Option.some.injEq] at h
          subst h
          exact ⟨_, mk_ptr hk, fun L => Yl.indexAddr_arr ht hsz hx' hi' (by simp) (by simp; omega)⟩
        · cases h
      · cases h
    · cases h
  · cases h

theorem index_sound (he : ERel N E ρ) {t : TypeId} {x ix : Operand} {v : V} (h : pureV P Z ⟨dst, .index t x ix, ty, pos, after, guard⟩ E = some v) : Yd P σ N ⟨dst, .index t x ix, ty, pos, after, guard⟩ ρ v := by
  simp only [pureV] at h
  split at h
  · rename_i l ik i hx hi
    have hx' := den_str (evV_den he hx)
    have hi' := den_int (evV_den he hi)
    split at h
    · rename_i hst
      simp only [Bool.and_eq_true] at hst
      cases hb : l[i]? with
      | none => simp [hb] at h
      | some b =>
        simp only [hb, Option.map_some, Option.some.injEq] at h
        subst h
        have hsm := small_spec hst.2 b (List.mem_of_getElem? hb)
        refine Yd.v (x := .int .u8 b) rfl rfl ?_
        unfold Instr.index
        rw [runP_bind, hi']
        simp only [asIntOf]
        show (runP P (underlying t >>= _)) = _
        rw [runP_bind, runP_underlying, isStrT_spec hst.1]
        simp only [Option.bind_some, hx']
        rw [if_pos (by simp)]
        have : (bytesOf l)[(Int.ofNat i).toNat]? = some (UInt8.ofNat b) := by
          have hlt := (List.getElem?_eq_some_iff.1 hb).1
          have e2 := (List.getElem?_eq_some_iff.1 hb).2
          rw [getElem?_pos (bytesOf l) _ (by simpa [bytesOf_size] using hlt)]
          congr 1
          show (bytesOf l).data[i]'_ = _
          simp [bytesOf, e2]
        rw [this]
        show some (Value.int .u8 _) = _
        congr 2
        simp [UInt8.toNat_ofNat']
        omega
    · cases h
  · rename_i l ik i hx hi
    obtain ⟨y, hy, hx'⟩ := den_agg (evV_den he hx)
    have hi' := den_int (evV_den he hi)
    split at h
    · rename_i n e ht
      have red : ∀ sz, szT P e = some sz → Nat.blt i n = true → runP P (Instr.index t (X.ev ρ x) (X.ev ρ ix)) = runP P (part e y.toArray (i * sz)) := by
        intro sz hsz hlt
        have hlt := Nat.le_of_ble_eq_true hlt
        unfold Instr.index
        rw [runP_bind, hi']
        simp only [asIntOf]
        show (runP P (underlying t >>= _)) = _
        rw [runP_bind, runP_underlying, arrT_spec ht]
        simp only [Option.bind_some, hx']
        rw [if_pos (by simp; omega)]
        rw [runP_bind, runP_sizeOf, hsz]
        rfl
      split at h
      · rename_i sz hsz ha hlt
        simp only [Option.some.injEq] at h
        subst h
        exact Yd.v (mk_agg (dens_take (dens_drop hy _) _)) rfl ((red _ hsz hlt).trans (runP_part ha hsz))
      · rename_i sz hsz ha hlt
        obtain ⟨x', hx2, hd⟩ := dens_get hy h
        exact Yd.v hd rfl ((red _ hsz hlt).trans (runP_part1 ha hx2))
      · cases h
    · cases h
  · cases h

theorem extract_sound (he : ERel N E ρ) {x : Operand} {i : Nat} {v : V} (h : pureV P Z ⟨dst, .extract x i, ty, pos, after, guard⟩ E = some v) : Yd P σ N ⟨dst, .extract x i, ty, pos, after, guard⟩ ρ v := by
  simp only [pureV] at h
  split at h
  · rename_i l hx
    obtain ⟨y, hy, hx'⟩ := den_tup (evV_den he hx)
    obtain ⟨x', hx2, hd⟩ := dens_get hy h
    exact ⟨_, hd, fun L => Yl.extract hx' (by simpa using hx2)⟩
  · cases h

theorem builtinP_sound {b : Builtin} {tys : Array TypeId} {args : Array Operand} {l : List V} {v : V} (hl : dens N l = some (args.map (X.ev ρ)).toList) (h : builtinP P b tys.toList l = some v) :
    Yd P σ N ⟨dst, .call { callee := .builtin b, args := args, argTypes := tys }, ty, pos, after, guard⟩ ρ v := by
  have red : ∀ (s : Sem Value) (x : Value), den N v = some x → (builtin b tys ty (args.map fun | .const _ => true | _ => false) (args.map (X.ev ρ))) = (do pure (.value (← s))) → runP P s = some x → 
      Yd P σ N ⟨dst, .call { callee := .builtin b, args := args, argTypes := tys }, ty, pos, after, guard⟩ ρ v := by
    intro s x hv hb hs
    refine Yd.run hv ?_
    show runP P (builtin b tys ty (args.map fun | .const _ => true | _ => false) (args.map (X.ev ρ))) = _
    rw [hb]
    exact runP_v hs
  generalize hxs : args.map (X.ev ρ) = xs at *
  obtain ⟨tl, rfl⟩ : ∃ tl : List TypeId, tys = tl.toArray := ⟨tys.toList, by simp⟩
  obtain ⟨xl, rfl⟩ : ∃ xl : List Value, xs = xl.toArray := ⟨xs.toList, by simp⟩
  simp only at hl h
  have one : ∀ a : V, l = [a] → ∃ x, xl = [x] ∧ den N a = some x := by
    rintro a rfl
    unfold dens at hl
    split at hl
    · rename_i x y hx hy
      simp [dens] at hy
      subst hy
      simp only [Option.some.injEq] at hl
      exact ⟨x, hl.symm, hx⟩
    · cases hl
  have two : ∀ a b : V, l = [a, b] → ∃ x y, xl = [x, y] ∧ den N a = some x ∧ den N b = some y := by
    rintro a b rfl
    unfold dens at hl
    split at hl
    · rename_i x y hx hy
      unfold dens at hy
      split at hy
      · rename_i x' y' hx' hy'
        simp [dens] at hy'
        subst hy'
        simp only [Option.some.injEq] at hy hl
        subst hy
        exact ⟨x, x', hl.symm, hx, hx'⟩
      · cases hy
    · cases hl
  have lenSl : ∀ (t : TypeId) (a : V) (p : Option Addr) (n c : Nat), l = [a] → tl = [t] → b = .len → (∀ x, den N a = some x → x = .slice p n c) → (elemOfSl P t).map (fun _ => V.int .i64 n) = some v →
      Yd P σ N ⟨dst, .call { callee := .builtin b, args := args, argTypes := tl.toArray }, ty, pos, after, guard⟩ ρ v := by
    rintro t a p n c hla rfl rfl hx h
    obtain ⟨x, rfl, hd⟩ := one a hla
    obtain rfl := hx x hd
    cases he : elemOfSl P t with
    | none => simp [he] at h
    | some e =>
      simp only [he, Option.map_some, Option.some.injEq] at h
      subst h
      refine red _ _ rfl rfl ?_
      unfold Builtin.len_
      simp only [List.getElem?_toArray, List.getElem?_cons_zero]
      rw [runP_bind, runP_underlying, elemOfSl_spec he]
      rfl
  have capSl : ∀ (t : TypeId) (a : V) (p : Option Addr) (n c : Nat), l = [a] → tl = [t] → b = .cap → (∀ x, den N a = some x → x = .slice p n c) → (elemOfSl P t).map (fun _ => V.int .i64 c) = some v →
      Yd P σ N ⟨dst, .call { callee := .builtin b, args := args, argTypes := tl.toArray }, ty, pos, after, guard⟩ ρ v := by
    rintro t a p n c hla rfl rfl hx h
    obtain ⟨x, rfl, hd⟩ := one a hla
    obtain rfl := hx x hd
    cases he : elemOfSl P t with
    | none => simp [he] at h
    | some e =>
      simp only [he, Option.map_some, Option.some.injEq] at h
      subst h
      refine red _ _ rfl rfl ?_
      unfold Builtin.cap_
      simp only [List.getElem?_toArray, List.getElem?_cons_zero]
      rw [runP_bind, runP_underlying, elemOfSl_spec he]
      rfl
  unfold builtinP at h
  split at h
  · -- a string's length
    rename_i s t
    obtain ⟨x, rfl, hd⟩ := one _ rfl
    obtain rfl := den_str hd
    split at h
    · rename_i hst
      simp only [Option.some.injEq] at h
      subst h
      refine red _ _ rfl rfl ?_
      unfold Builtin.len_
      simp only [List.getElem?_toArray, List.getElem?_cons_zero]
      rw [runP_bind, runP_underlying, isStrT_spec hst]
      show some (goInt _) = _
      simp [goInt, bytesOf_size]
    · cases h
  · rename_i n c t
    exact lenSl t _ none n c rfl rfl rfl (fun x hx => den_lit hx) h
  · rename_i k off n c t
    refine Exists.elim (one _ rfl) fun x hx => ?_
    obtain ⟨bb, cc, hk, rfl⟩ := den_sl hx.2
    exact lenSl t _ (some ⟨bb, off, none⟩) n c rfl rfl rfl (fun y hy => by rw [hx.2] at hy; simpa [eq_comm] using hy) h
  · rename_i k off n lo t
    refine Exists.elim (one _ rfl) fun x hx => ?_
    obtain ⟨bb, cc, hk, hle, rfl⟩ := den_osl hx.2
    exact lenSl t _ (some ⟨bb, off, none⟩) n (cc - lo) rfl rfl rfl (fun y hy => by rw [hx.2] at hy; simpa [eq_comm] using hy) h
  · rename_i n c t
    exact capSl t _ none n c rfl rfl rfl (fun x hx => den_lit hx) h
  · rename_i k off n c t
    refine Exists.elim (one _ rfl) fun x hx => ?_
    obtain ⟨bb, cc, hk, rfl⟩ := den_sl hx.2
    exact capSl t _ (some ⟨bb, off, none⟩) n c rfl rfl rfl (fun y hy => by rw [hx.2] at hy; simpa [eq_comm] using hy) h
  · -- min
    rename_i k a k' c
    obtain ⟨x, y, rfl, hx, hy⟩ := two _ _ rfl
    obtain rfl := den_int hx
    obtain rfl := den_int hy
    split at h
    · rename_i hk
      simp only [decide_eq_true_eq] at hk
      subst hk
      simp only [Option.some.injEq] at h
      subst h
      refine red _ _ rfl rfl ?_
      simp only [Builtin.min_, List.foldlM_cons, List.foldlM_nil, Builtin.min2]
      rfl
    · cases h
  · rename_i k a k' c
    obtain ⟨x, y, rfl, hx, hy⟩ := two _ _ rfl
    obtain rfl := den_int hx
    obtain rfl := den_int hy
    split at h
    · rename_i hk
      simp only [decide_eq_true_eq] at hk
      subst hk
      simp only [Option.some.injEq] at h
      subst h
      refine red _ _ rfl rfl ?_
      simp only [Builtin.max_, List.foldlM_cons, List.foldlM_nil, Builtin.max2]
      rfl
    · cases h
  · -- the first element's address
    rename_i n c
    obtain ⟨x, rfl, hd⟩ := one _ rfl
    obtain rfl := den_lit hd
    simp only [Option.some.injEq] at h
    subst h
    exact red _ _ rfl rfl rfl
  · rename_i k off n c
    obtain ⟨x, rfl, hd⟩ := one _ rfl
    obtain ⟨bb, cc, hk, rfl⟩ := den_sl hd
    simp only [Option.some.injEq] at h
    subst h
    exact red _ _ (mk_ptr hk) rfl rfl
  · rename_i k off n lo
    obtain ⟨x, rfl, hd⟩ := one _ rfl
    obtain ⟨bb, cc, hk, hle, rfl⟩ := den_osl hd
    simp only [Option.some.injEq] at h
    subst h
    refine red _ _ (mk_ptr hk) rfl ?_
    show runP P (ite (cc - lo ≠ 0) _ _) = _
    rw [if_pos (by omega)]
    rfl
  · rename_i k
    obtain ⟨x, y, rfl, hx, hy⟩ := two _ _ rfl
    obtain rfl := den_lit hx
    obtain rfl := den_int hy
    simp only [Option.some.injEq] at h
    subst h
    refine red _ _ (den.eq_3 N _) rfl ?_
    rfl
  · cases h

theorem call_sound (hz : ExOk P σ Z) (he : ERel N E ρ) {c : Call} {v : V} (h : pureV P Z ⟨dst, .call c, ty, pos, after, guard⟩ E = some v) : Yd P σ N ⟨dst, .call c, ty, pos, after, guard⟩ ρ v := by
  obtain ⟨cal, args, tys⟩ := c
  simp only [pureV] at h
  split at h
  · rename_i l hl
    have hd := optMap_ev he hl
    split at h
    · exact builtinP_sound hd h
    · rename_i f
      split at h
      · rename_i f' hf
        obtain ⟨y, z, hy, hz', hx⟩ := den_fn (evV_den he hf)
        simp [dens] at hy hz'
        subst hy; subst hz'
        have red : ∀ x, den N v = some x → runP P (callFunc f' (args.map (X.ev ρ))) = some (.value x) → Yd P σ N ⟨dst, .call ⟨.value f, args, tys⟩, ty, pos, after, guard⟩ ρ v := by
          intro x hv hr
          refine Yd.run hv ?_
          simp only [execOp, resolve, hx, Deferred.ofValue, pure_bind, invoke]
          simpa using hr
        split at h
        · rename_i w hw
          simp only [Option.some.injEq] at h
          subst h
          unfold externP at hw
          split at hw
          · cases hw
          · split at hw
            · cases hw
            · rename_i vs hvs
              have := optMap_of hvs hd
              subst this
              split at hw
              · rename_i u hu
                simp only [Option.some.injEq] at hw
                subst hw
                exact red u (den_toV N u) (by rw [Array.toArray_toList] at hu; exact hu)
              · cases hw
        · split at h
          · rename_i w hne hx3
            simp only [Option.some.injEq] at h
            subst h
            rw [Bool.and_eq_true] at hne
            obtain ⟨hne, hsome⟩ := hne
            have hne := Nat.eq_of_beq_eq_true hne
            subst hne
            obtain ⟨fn, hfn⟩ := Option.isSome_iff_exists.1 hsome
            obtain ⟨h1, h2, h3, h4⟩ := hz.ne fn hfn
            unfold dens at hd
            split at hd
            · rename_i x ys hx2 hys
              simp [dens] at hys
              subst hys
              simp only [Option.some.injEq] at hd
              have hargs : args.map (X.ev ρ) = #[x] := by
                apply Array.ext'
                rw [← hd]
              refine red x hx2 ?_
              rw [hargs]
              unfold callFunc
              rw [runP_bind]
              show runP P _ = _
              simp only [hfn, h2, h1, h3, h4]
              rfl
            · cases hd
          · cases h
      · cases h
    · cases h
  · cases h

theorem pureV_sound (hz : ExOk P σ Z) (he : ERel N E ρ) {o : Oper} {v : V} (h : pureV P Z o E = some v) : Yd P σ N o ρ v := by
  obtain ⟨dst, op, ty, pos, after, guard⟩ := o
  cases op with
  | move x => exact ⟨_, evV_den he h, fun L => Yl.mv rfl⟩
  | assign x => exact ⟨_, evV_den he h, fun L => Yl.asg rfl⟩
  | pick c a b => exact pick_sound he h
  | build t ps => exact build_sound he h
  | nilCheck x => exact nilCheck_sound he h
  | binOp op t x y u =>
    simp only [pureV] at h
    split at h
    · rename_i a b ha hb
      exact binV_sound h (evV_den he ha) (evV_den he hb)
    · cases h
  | unOp op t x => exact un_sound he h
  | convert s d x => exact conv_sound he h
  | makeInterface t x => exact iface_sound he h
  | makeFunc f a b => exact func_sound he h
  | slice t x lo hi mx => exact slice_sound he h
  | fieldAddr s x f => exact fieldAddr_sound he h
  | field s x f => exact field_sound he h
  | indexAddr t x ix => exact indexAddr_sound he h
  | index t x ix => exact index_sound he h
  | extract x i => exact extract_sound he h
  | call c => exact call_sound hz he h
  | _ => simp [pureV] at h
end Go.E
