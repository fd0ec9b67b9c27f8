import Derived.Test.YtoeboeihendiiaaGreatDoorE8
set_option linter.all false
namespace Go.E
open Go.X
attribute [local semireducible] Yl xop
variable {P : Program} {σ : Sig} {N : Nm} {E : T V} {ρ : X.Env} {L : Hp} {Z : Ex} {dst : Option Tmp} {ty : TypeId} {pos : String} {after : Array Edge} {guard : Option (Nat × Bool)}

/-- what an operation leaves -/
def Post (P : Program) (N : Nm) (S : St) (v : V) (x : Value) (L : Hp) : Prop := ∃ M, Ext N M ∧ den M v = some x ∧ SRel P M S L

def XV (P : Program) (σ : Sig) (N : Nm) (o : Oper) (ρ : X.Env) (S : St) (v : V) (L : Hp) : Prop := xop P σ o ρ (fun x L => Wk (Post P N S v x) L) L

theorem bnd_val {α : Type} {s : String} {x : Option α} {k : α → OR} {v : V} {S : St} (h : bnd s x k = .val v S) : ∃ a, x = some a ∧ k a = .val v S := by
  cases x with
  | none => simp [bnd] at h
  | some a => exact ⟨a, rfl, h⟩

theorem dens_ext {M : Nm} (hx : Ext N M) {l : List V} {xs : List Value} (h : dens N l = some xs) : dens M l = some xs := dens_mono hx l xs h

theorem load_yl {S : St} (hr : SRel P N S L) {t : TypeId} {a : Operand} {k off : Nat} {v : V} (ha : den N (.ptr k off) = some (X.ev ρ a)) (hl : loadV P S t k off = some v) :
    ∃ x, den N v = some x ∧ Yl P σ ⟨dst, .load t a, ty, pos, after, guard⟩ ρ x L := by
  obtain ⟨b, c, hk, hx'⟩ := den_ptr ha
  obtain ⟨x, hd, h1 | ⟨h1, n, vs, h2, h3, rfl⟩⟩ := loadV_rd (σ := σ) hr hl hk
  · exact ⟨x, hd, Yl.load_cell h1.1 hx' h1.2⟩
  · exact ⟨_, hd, Yl.load_agg h1 h2 hx' h3⟩

theorem global_yl (hz : ExOk P σ Z) {t : TypeId} {a : Operand} {g off : Nat} {v : Value} (ha : den N (.lit (.pointer (some ⟨g, off, none⟩))) = some (X.ev ρ a)) (ht : isAggT P t = some false) (hl : Z.gl g off = some v) :
    den N (.gl v) = some v ∧ ∀ L, Yl P σ ⟨dst, .load t a, ty, pos, after, guard⟩ ρ v L := by
  obtain ⟨h1, c, e, fz, h2, h3⟩ := hz.gl g off v hl
  exact ⟨mk_gl h1, fun L => Yl.load_cell ht (den_lit ha) ⟨rfl, c, e, fz, .inl h2, h3⟩⟩

theorem load_sound (hz : ExOk P σ Z) (he : ERel N E ρ) {S S' : St} {t : TypeId} {a : Operand} {v : V} (hr : SRel P N S L) (h : heapV P Z ⟨dst, .load t a, ty, pos, after, guard⟩ E S = .val v S') : XV P σ N ⟨dst, .load t a, ty, pos, after, guard⟩ ρ S' v L := by
  simp only [heapV] at h
  obtain ⟨w, hw, h⟩ := bnd_val h
  split at h
  · rename_i k off
    obtain ⟨u, hu, h⟩ := bnd_val h
    simp only [OR.val.injEq] at h
    obtain ⟨rfl, rfl⟩ := h
    obtain ⟨x, hd, hy⟩ := load_yl (dst := dst) (ty := ty) (pos := pos) (after := after) (guard := guard) (σ := σ) hr (evV_den he hw) hu
    exact xop_of_Yl hy (Wk.intro ⟨N, Ext.refl N, hd, hr⟩)
  · rename_i g off
    split at h
    · rename_i ht
      obtain ⟨u, hu, h⟩ := bnd_val h
      simp only [OR.val.injEq] at h
      obtain ⟨rfl, rfl⟩ := h
      obtain ⟨hd, hy⟩ := global_yl (dst := dst) (ty := ty) (pos := pos) (after := after) (guard := guard) (σ := σ) hz (evV_den he hw) ht hu
      exact xop_of_Yl (hy L) (Wk.intro ⟨N, Ext.refl N, hd, hr⟩)
    · cases h
  · cases h

theorem store_sound (he : ERel N E ρ) {S S' : St} {t : TypeId} {a x : Operand} {v : V} (hr : SRel P N S L) (h : heapV P Z ⟨dst, .store t a x, ty, pos, after, guard⟩ E S = .val v S') : XV P σ N ⟨dst, .store t a x, ty, pos, after, guard⟩ ρ S' v L := by
  simp only [heapV] at h
  obtain ⟨w, hw, h⟩ := bnd_val h
  obtain ⟨u, hu, h⟩ := bnd_val h
  obtain ⟨l, hl, h⟩ := bnd_val h
  obtain ⟨n, hn, h⟩ := bnd_val h
  split at h
  · rename_i k off hb0
    have hb := Nat.eq_of_beq_eq_true (show Nat.beq n l.length = true by assumption)
    obtain ⟨S1, hS, h⟩ := bnd_val h
    simp only [OR.val.injEq] at h
    obtain ⟨rfl, rfl⟩ := h
    obtain ⟨xs, hxs, hc, ho⟩ := cells1_spec hl (evV_den he hu)
    obtain ⟨b, c, hk, L', hwr, hs⟩ := storeV_wr hr hS hxs
    obtain ⟨b', c', hk', hx'⟩ := den_ptr (evV_den he hw)
    rw [hk] at hk'
    simp only [Option.some.injEq, Prod.mk.injEq] at hk'
    obtain ⟨rfl, rfl⟩ := hk'
    refine xop_store (by rw [hc, hn, hb]; simp [dens_len hxs]) (by rw [hc]; simpa using ho) ?_
    rw [hx', onPtr_mk, hc]
    exact ⟨rfl, L', by simpa using hwr, Wk.intro ⟨N, Ext.refl N, rfl, hs⟩⟩
  · cases h

/-! ### rows -/
theorem elT_spec {t e : TypeId} {sz : Nat} {zl : List V} (h : elT P t = some (e, sz, zl)) :
    ∃ z by', elemOfSl P t = some e ∧ szT P e = some sz ∧ zeroT P e = some z ∧ bytesT P e = some by' ∧ zl.length = sz ∧ 0 < sz ∧ 0 < by' ∧ by' ≤ 4096 ∧
      ∃ zs, dens N zl = some zs ∧ z.cells = zs.toArray ∧ ∀ u ∈ zs, u.oneCell = true := by
  unfold elT at h
  cases h1 : elemOfSl P t with
  | none => simp [h1] at h
  | some e1 =>
    simp only [h1, Option.bind_some] at h
    cases h2 : szT P e1 with
    | none => simp [h2] at h
    | some s1 =>
      simp only [h2, Option.bind_some] at h
      cases h3 : zeroT P e1 with
      | none => simp [h3] at h
      | some z =>
        simp only [h3, Option.bind_some] at h
        cases h4 : cells1 (toV z) with
        | none => simp [h4] at h
        | some l =>
          simp only [h4, Option.bind_some] at h
          cases h5 : bytesT P e1 with
          | none => simp [h5] at h
          | some b =>
            simp only [h5, Option.bind_some] at h
            split at h
            · rename_i hc
              simp only [Bool.and_eq_true] at hc
              simp only [Option.some.injEq, Prod.mk.injEq] at h
              obtain ⟨rfl, rfl, rfl⟩ := h
              exact ⟨z, b, rfl, h2, h3, h5, Nat.eq_of_beq_eq_true hc.1.1.1, Nat.le_of_ble_eq_true hc.1.1.2, Nat.le_of_ble_eq_true hc.1.2, Nat.le_of_ble_eq_true hc.2, cells1_spec h4 (den_toV N z)⟩
            · cases h

theorem repL_len {α : Type} (z : List α) : ∀ n, (repL z n).length = n * z.length
  | 0 => by simp [repL]
  | n + 1 => by simp [repL, repL_len z n, Nat.add_mul]; omega

theorem repL_get {α : Type} (z : List α) : ∀ n i, i < n * z.length → (repL z n)[i]? = z[i % z.length]?
  | 0, i, h => by simp at h
  | n + 1, i, h => by
    rw [Nat.add_mul, Nat.one_mul] at h
    simp only [repL]
    by_cases hi : i < z.length
    · rw [List.getElem?_append_left hi, Nat.mod_eq_of_lt hi]
    · rw [List.getElem?_append_right (by omega), repL_get z n _ (by omega)]
      congr 1
      have : i = (i - z.length) + z.length := by omega
      conv => rhs; rw [this, Nat.add_mod_right]

theorem range_rep (zs : List Value) (n : Nat) (hz : 0 < zs.length) : ((Array.range (n * zs.length)).map (zs.toArray[· % zs.toArray.size]!)) = (repL zs n).toArray := by
  apply Array.ext_getElem?
  intro i
  simp only [Array.getElem?_map, List.getElem?_toArray]
  by_cases hi : i < n * zs.length
  · rw [repL_get zs n i hi]
    have hm : i % zs.length < zs.length := Nat.mod_lt _ hz
    rw [List.getElem?_eq_getElem hm]
    rw [Array.getElem?_range]
    simp [hi, hm]
  · rw [List.getElem?_eq_none (by rw [repL_len]; omega), Array.getElem?_eq_none (by simp; omega)]
    rfl

theorem dens_rep {zl : List V} {zs : List Value} (h : dens N zl = some zs) : ∀ n, dens N (repL zl n) = some (repL zs n)
  | 0 => rfl
  | n + 1 => dens_append h (dens_rep h n)

/-! ### what only makes a block -/
theorem mk_of_xop {o : Oper} {ob : Obj} {v : Nat → Value} {s : Sem Value} (hs : execOp (X.ev ρ) o = (do pure (Next.value (← s)))) (h : ∀ (K : Value → Hp → Prop) (L : Hp), (∀ b, K (v b) ((b, ob) :: L)) → xop P σ o ρ K L) : Mk P σ o ρ ob v := by
  intro K L hk
  have := h (fun v L => K (.value v) L) L hk
  unfold xop at this
  rw [hs, xv] at this
  rw [hs, xwp_bind]
  exact this

def AllocOk (P : Program) (σ : Sig) (N : Nm) (o : Oper) (ρ : X.Env) (ob : O) (v : Nat → V) : Prop :=
  ∃ obj vv, Mk P σ o ρ obj vv ∧ ∀ M k b, Ext N M → M[k]? = some (b, 0) → den M (v k) = some (vv b) ∧ ORel P M 0 ob obj

theorem bind_some' {α β : Type} {x : Option α} {f : α → Option β} {b : β} (h : x.bind f = some b) : ∃ a, x = some a ∧ f a = some b := by
  cases x with
  | none => cases h
  | some a => exact ⟨a, rfl, h⟩
theorem map_some' {α β : Type} {x : Option α} {f : α → β} {b : β} (h : x.map f = some b) : ∃ a, x = some a ∧ f a = b := by
  cases x with
  | none => cases h
  | some a => exact ⟨a, rfl, by simpa using h⟩

theorem alloc_ok {t : TypeId} {ob : O} {v : Nat → V} (h : allocV P ⟨dst, .alloc t, ty, pos, after, guard⟩ E = some (ob, v)) : AllocOk P σ N ⟨dst, .alloc t, ty, pos, after, guard⟩ ρ ob v := by
  simp only [allocV] at h
  obtain ⟨z, hz, h⟩ := bind_some' h
  obtain ⟨l, hl, h⟩ := map_some' h
  simp only [Prod.mk.injEq] at h
  obtain ⟨rfl, rfl⟩ := h
  refine ⟨_, _, mk_of_xop rfl fun K L hk => xop_alloc hz hk, fun M k b hM hk => ⟨mk_ptr hk, ?_⟩⟩
  obtain ⟨xs, hxs, hc, ho⟩ := cells1_spec hl (den_toV M z)
  rw [hc]
  exact ORel.put hxs (fun i hi => by simp) (fun n _ => .inl rfl) (fun _ => by simp [dens_len hxs]) (fun h => by cases h)

theorem box_ok (he : ERel N E ρ) {t : TypeId} {x : Operand} {ob : O} {v : Nat → V} (h : allocV P ⟨dst, .box t x, ty, pos, after, guard⟩ E = some (ob, v)) : AllocOk P σ N ⟨dst, .box t x, ty, pos, after, guard⟩ ρ ob v := by
  simp only [allocV] at h
  obtain ⟨z, hz, h⟩ := bind_some' h
  obtain ⟨l, hl, h⟩ := map_some' h
  simp only [Prod.mk.injEq] at h
  obtain ⟨rfl, rfl⟩ := h
  refine ⟨_, _, mk_of_xop rfl fun K L hk => xop_box hk, fun M k b hM hk => ⟨mk_ptr hk, ?_⟩⟩
  obtain ⟨xs, hxs, hc, ho⟩ := cells1_spec hl (den_mono hM _ _ (evV_den he hz))
  rw [hc]
  exact ORel.put hxs (fun i hi => by simp) (fun n _ => .inl rfl) (fun _ => by simp [dens_len hxs]) (fun h => by cases h)

theorem vfill_len {pl : Nat → Option (Nat × Nat)} : ∀ (l : List (Nat × V)) (zl r : List V), vfill pl zl l = some r → r.length = zl.length := by
  intro l
  induction l with
  | nil => intro zl r h; simp [vfill] at h; subst h; rfl
  | cons p l ih =>
    intro zl r h
    obtain ⟨i, v⟩ := p
    unfold vfill at h
    split at h
    · rename_i off n c hp hc
      split at h
      · rename_i hb
        simp only [Bool.and_eq_true] at hb
        have q1 := Nat.eq_of_beq_eq_true hb.1
        have q2 := Nat.le_of_ble_eq_true hb.2
        rw [ih _ _ h]
        simp
        omega
      · cases h
    · cases h

theorem xop_buildSlice0 {t e : TypeId} {sz : Nat} {K : Value → Hp → Prop} (ht : elemOfSl P t = some e) (hs : szT P e = some sz)
    (hk : ∀ b, K (.slice (some ⟨b, 0, none⟩) 0 0) ((b, .cells #[] e (0, 0)) :: L)) : xop P σ ⟨dst, .buildSlice t 0 #[], ty, pos, after, guard⟩ ρ K L := by
  unfold xop
  simp only [execOp]
  rw [xv]
  unfold Instr.buildSlice
  simp only [xwp_bind, xwp_underlying_eq, elemOfSl_spec ht, xwp_sizeOf_eq, hs]
  simp only [Nat.zero_mul]
  rw [if_neg (by decide), if_pos trivial]
  simp [Instr.fill, newRow, xwp_bind, xwp_newObj_eq, xwp_pure_eq]
  have e0 : (Array.range 0).map (fun _ => (default : Value)) = #[] := by apply Array.eq_empty_of_size_eq_zero; simp
  rw [e0, xwp_map]
  exact hk

theorem buildSlice_ok (he : ERel N E ρ) {t : TypeId} {n : Nat} {ps : Array (Nat × Operand)} {ob : O} {v : Nat → V} (h : allocV P ⟨dst, .buildSlice t n ps, ty, pos, after, guard⟩ E = some (ob, v)) : AllocOk P σ N ⟨dst, .buildSlice t n ps, ty, pos, after, guard⟩ ρ ob v := by
  simp only [allocV] at h
  split at h
  · split at h
    · rename_i e hel hps
      obtain ⟨sz, hsz, h⟩ := bind_some' h
      simp only [Option.some.injEq, Prod.mk.injEq] at h
      obtain ⟨rfl, rfl⟩ := h
      have hps' : ps = #[] := by apply Array.ext'; exact hps
      subst hps'
      refine ⟨_, _, mk_of_xop rfl fun K L hk => xop_buildSlice0 (by assumption) hsz hk, fun M k b hM hk => ⟨mk_sl hk, ?_⟩⟩
      exact ORelC.o rfl ⟨#[], (0, 0), rfl, fun i v hv => by simp [T.get_leaf] at hv, fun n _ => .inl rfl, fun _ => rfl, fun h => by cases h⟩
    · cases h
  · rename_i n
    obtain ⟨⟨e, sz, zl⟩, hel, h⟩ := bind_some' h
    simp only at h
    split at h
    · cases h
    · rename_i hc
      have hc1 := Nat.le_of_ble_eq_true hc
      obtain ⟨l, hl, h⟩ := bind_some' h
      obtain ⟨r, hf, h⟩ := bind_some' h
      split at h
      · rename_i hall
        simp only [Option.some.injEq, Prod.mk.injEq] at h
        obtain ⟨rfl, rfl⟩ := h
        obtain ⟨z, by', h1, h2, h3, h4, h5, h6, h7, h8, zs, hzs, hzc, hzo⟩ := elT_spec (N := N) hel
        obtain ⟨g1, g2⟩ := optMap_parts he hl
        obtain ⟨xs, hxs, hfill⟩ := vfill_spec (f := fun v => (den N v).getD undef) hf (dens_rep hzs (n + 1)) g2
        have hzl := dens_len hzs
        obtain ⟨pl, rfl⟩ : ∃ pl : List (Nat × Operand), ps = pl.toArray := ⟨ps.toList, by simp⟩
        have hne : (n + 1) * sz ≠ 0 := by
          have := Nat.mul_pos (show 0 < n + 1 by omega) h6
          omega
        have hxl : xs.length = (n + 1) * sz := by
          rw [dens_len hxs, vfill_len _ _ _ hf, repL_len, h5]
        refine ⟨_, _, mk_of_xop rfl fun K L hk => xop_buildSlice (cs := xs.toArray) h1 h2 h3 hc1 hne ?_ hk, fun M k b hM hk => ⟨mk_sl hk, ?_⟩⟩
        · have e3 : (Array.range ((n + 1) * sz)).map (z.cells[· % z.cells.size]!) = (repL zs (n + 1)).toArray := by
            rw [hzc]
            have := range_rep zs (n + 1) (by omega)
            rw [hzl, h5] at this
            exact this
          rw [e3]
          simp only at g1
          rw [show (pl.map fun (x : Nat × Operand) => (x.1, X.ev ρ x.2)) = _ from g1]
          exact hfill
        · exact ORel.put (dens_ext hM hxs) (fun i hi => by simp) (fun n _ => .inl rfl) (fun _ => by simp [hxl]) (fun h => by cases h)
      · cases h

theorem makeSlice_ok (he : ERel N E ρ) {t : TypeId} {x y : Operand} {ob : O} {v : Nat → V} (h : allocV P ⟨dst, .makeSlice t x y, ty, pos, after, guard⟩ E = some (ob, v)) : AllocOk P σ N ⟨dst, .makeSlice t x y, ty, pos, after, guard⟩ ρ ob v := by
  simp only [allocV] at h
  obtain ⟨⟨e, sz, zl⟩, hel, h⟩ := bind_some' h
  obtain ⟨z, by', h1, h2, h3, h4, h5, h6, h7, h8, zs, hzs, hzc, hzo⟩ := elT_spec (N := N) hel
  simp only at h
  obtain ⟨a, ha, h⟩ := bind_some' h
  obtain ⟨b, hb, h⟩ := bind_some' h
  split at h
  · rename_i k1 n k2 m _
    split at h
    · rename_i hc
      simp only [Bool.and_eq_true] at hc
      have hc1 := Nat.le_of_ble_eq_true hc.1
      have hc2 := Nat.le_of_ble_eq_true hc.2
      simp only [Option.some.injEq, Prod.mk.injEq] at h
      obtain ⟨rfl, rfl⟩ := h
      have hzl := dens_len hzs
      have hbm : by' * m ≤ 4096 * 2 ^ 30 := Nat.mul_le_mul h8 hc2
      have e3 : (Array.range ((m : Int).toNat * sz)).map (z.cells[· % z.cells.size]!) = (repL zs m).toArray := by
        rw [hzc]
        have := range_rep zs m (by omega)
        rw [hzl, h5] at this
        exact this
      refine ⟨.cells (repL zs m).toArray e (0, 0), fun b => .slice (some ⟨b, 0, none⟩) n m, mk_of_xop rfl fun K L hk => xop_makeSlice (n := (n : Int)) (m := (m : Int)) h1 h2 h3 h4 (den_int (evV_den he ha)) (den_int (evV_den he hb)) (by omega) (by omega) (by omega) (by
        have : ((by' : Int) * (m : Int)) = ((by' * m : Nat) : Int) := by simp
        rw [this]; omega) (fun b => by rw [e3]; exact hk b), fun M k b hM hk => ⟨mk_sl hk, ?_⟩⟩
      exact ORel.put (dens_ext hM (dens_rep hzs m)) (fun i hi => by simp) (fun n _ => .inl rfl) (fun _ => by simp [repL_len, hzl, h5]) (fun h => by cases h)
    · cases h
  · cases h

theorem allocV_sound (he : ERel N E ρ) {o : Oper} {ob : O} {v : Nat → V} (h : allocV P o E = some (ob, v)) : AllocOk P σ N o ρ ob v := by
  obtain ⟨dst, op, ty, pos, after, guard⟩ := o
  cases op with
  | alloc t => exact alloc_ok h
  | box t x => exact box_ok he h
  | buildSlice t n ps => exact buildSlice_ok he h
  | makeSlice t x y => exact makeSlice_ok he h
  | makeMap t r =>
    cases r with
    | some x => simp [allocV] at h
    | none =>
      simp only [allocV, Option.some.injEq, Prod.mk.injEq] at h
      obtain ⟨rfl, rfl⟩ := h
      exact ⟨_, _, mk_of_xop rfl fun K L hk => xop_makeMap hk, fun M k b hM hk => ⟨mk_mp hk, ORel.mk ⟨[], rfl, .nil⟩⟩⟩
  | _ => simp [allocV] at h
end Go.E
