import Derived.Test.YtoeboeihendiiaaGreatDoorE12
set_option linter.all false
namespace Go.E
open Go.X
attribute [local semireducible] Yl xop
variable {P : Program} {σ : Sig} {N : Nm} {E : T V} {ρ : X.Env} {L : Hp} {Z : Ex} {dst : Option Tmp} {ty : TypeId} {pos : String} {after : Array Edge} {guard : Option (Nat × Bool)}

theorem copy_sound {S S' : St} {tys : Array TypeId} {t e : TypeId} {sz m n k off b c cap : Nat} {zl : List V} {new : List V} {w : V} {x : Value} {v : V} (hr : SRel P N S L) (ht : tys[0]? = some t) (hel : elT P t = some (e, sz, zl))
    (hsrc : srcV P S sz w = some (m, new)) (hx : den N w = some x) (hk : N[k]? = some (b, c)) (h : copyV S k off n sz m new = .val v S') :
    xwp P σ (Builtin.copy_ tys ty #[.slice (some ⟨b, off, none⟩) n cap, x]) (fun x L => Wk (Post P N S' v x) L) L := by
  obtain ⟨z, by', h1, h2, h3, h4, h5, h6, h7, h8, zs, hzs, hzc, hzo⟩ := elT_spec (N := N) hel
  obtain ⟨xs, hxs, hxl, hlen, hfirst⟩ := srcV_spec (σ := σ) hr hsrc hx
  unfold copyV at h
  split at h
  · rename_i hall
    obtain ⟨S1, hS, h⟩ := bnd_val h
    simp only [OR.val.injEq] at h
    obtain ⟨rfl, rfl⟩ := h
    have hone := all_one hall hxs
    obtain ⟨b', c', hk', L', hwr, hsr⟩ := storeV_wr hr hS (dens_take hxs _)
    rw [hk] at hk'
    simp only [Option.some.injEq, Prod.mk.injEq] at hk'
    obtain ⟨rfl, rfl⟩ := hk'
    unfold Builtin.copy_
    simp only [List.getElem?_toArray, List.getElem?_cons_zero, List.getElem?_cons_succ, ht]
    rw [xwp_bind, xwp_underlying_eq, elemOfSl_spec h1]
    simp only [hlen, pure_bind]
    rw [xwp_bind, xwp_sizeOf_eq, h2]
    simp only
    rw [xwp_bind]
    refine xq_xwp _ (fun r hr' => ?_) (hfirst (Nat.min m n) (Nat.min_le_left _ _))
    subst hr'
    rw [xwp_bind]
    have hadd : (⟨b, off, none⟩ : Addr).add 0 = ⟨b, off, none⟩ := by rw [add_mk, Nat.add_zero]
    refine xwp_storeCells (a := ⟨b, off, none⟩) (xs.take (Nat.min m n * sz)) 0 (fun u hu => hone u (List.mem_of_mem_take hu)) (by rw [hadd]; exact hwr) ?_ rfl
    exact Wk.intro ⟨N, Ext.refl N, rfl, hsr⟩
  · cases h

theorem strish_sound {S : St} {d e : TypeId} {k off n cap b c : Nat} {o : O} (hr : SRel P N S L) (hk : N[k]? = some (b, c)) (ho : obj S k = some o) (hel : elemOfSl P d = some e) (hi : intT P e = some .u8) :
    xwp P σ (convert d d (.slice (some ⟨b, off, none⟩) n cap)) (fun x L => Wk (Post P N (setObj S k { o with fz := none }) (.sl k off n cap) x) L) L := by
  obtain ⟨b', c', o', hk', hm, hor, hw, _⟩ := hr.at ho
  rw [hk] at hk'
  simp only [Option.some.injEq, Prod.mk.injEq] at hk'
  obtain ⟨rfl, rfl⟩ := hk'
  obtain ⟨cs, fz, rfl, o2, o3, o4, o5⟩ := hor
  have hor' : ORel P N c { o with fz := none } (.cells cs o.e (frz cs.size 1 fz)) := ORelC.o (obj_get ho).2 ⟨cs, _, rfl, o2, (fun n h => by cases h), o4, o5⟩
  obtain ⟨L', hrep, hsr⟩ := hw _ _ hor'
  unfold convert
  rw [xwp_bind, xwp_underlying_eq, elemOfSl_spec hel]
  simp only
  rw [xwp_bind, xwp_underlying_eq, elemOfSl_spec hel]
  simp only
  rw [xwp_bind, xwp_underlying_eq, intT_spec hi]
  simp only [beq_self_eq_true]
  rw [xwp_bind]
  unfold markStringish
  rw [xwp_bind]
  refine xwp_shape (.inr hm) ?_
  simp only [shapeOf]
  refine ⟨by decide, cs, o.e, fz, L', hrep, ?_⟩
  exact Wk.intro ⟨N, Ext.refl N, mk_sl hk, hsr⟩

theorem convertH_sound (he : ERel N E ρ) {S S' : St} {s d : TypeId} {x : Operand} {v : V} (hr : SRel P N S L) (h : heapV P Z ⟨dst, .convert s d x, ty, pos, after, guard⟩ E S = .val v S') : XV P σ N ⟨dst, .convert s d x, ty, pos, after, guard⟩ ρ S' v L := by
  simp only [heapV] at h
  obtain ⟨w, hw, h⟩ := bnd_val h
  have hd := evV_den he hw
  split at h
  · rename_i l
    split at h
    · rename_i e hc hel
      split at h
      · rename_i hi hz
        simp only [OR.val.injEq] at h
        obtain ⟨rfl, rfl⟩ := h
        have hc' : isStrT P s = true ∧ small l = true := by
          have : (isStrT P s && small l) = true := by assumption
          simpa using this
        have hel' : elemOfSl P d = some e := by assumption
        have hx := den_str hd
        unfold XV xop
        simp only [execOp]
        rw [xv, hx]
        unfold convert
        rw [xwp_bind, xwp_underlying_eq, isStrT_spec hc'.1]
        simp only
        rw [xwp_bind, xwp_underlying_eq, elemOfSl_spec hel']
        simp only
        rw [xwp_bind, xwp_underlying_eq, intT_spec (k := .u8) (by assumption)]
        simp only
        exact toBytes_sound hr hc'.2 (by assumption)
      · cases h
    · cases h
  · rename_i k off n cap
    split at h
    · rename_i hsd hu8
      obtain ⟨o, ho, h⟩ := bnd_val h
      simp only [OR.val.injEq] at h
      obtain ⟨rfl, rfl⟩ := h
      have hsd' := Nat.eq_of_beq_eq_true (show Nat.beq s d = true by assumption)
      subst hsd'
      obtain ⟨b, c, hk, hx⟩ := den_sl hd
      have hu : (elemOfSl P s).bind (intT P) = some .u8 := by assumption
      obtain ⟨e, hel, hi⟩ := bind_some' hu
      unfold XV xop
      simp only [execOp]
      rw [xv, hx]
      exact strish_sound hr hk ho hel hi
    · cases h
  · rename_i k off
    obtain ⟨o, ho, h⟩ := bnd_val h
    obtain ⟨b, c, hk, hx⟩ := den_ptr hd
    have fin : ∀ (hp : (∃ t m, P.underlying s = some (.pointer t) ∧ P.underlying d = some .unsafePointer ∧ szT P t = some (m + 1) ∧ off < o.size) ∨
      (∃ u m, P.underlying s = some .unsafePointer ∧ P.underlying d = some (.pointer u) ∧ szT P u = some (m + 1) ∧ liesAt P P.depth o.e (o.size / P.cellsOf o.e) off u 1 = true)),
      XV P σ N ⟨dst, .convert s d x, ty, pos, after, guard⟩ ρ S (.ptr k off) L := by
      intro hp
      have := ptr_sound (σ := σ) hr hk ho hp
      unfold XV xop
      simp only [execOp]
      rw [xv, hx]
      refine xq_xwp _ (fun u hu => ?_) this
      subst hu
      exact Wk.intro ⟨N, Ext.refl N, mk_ptr hk, hr⟩
    split at h
    · split at h
      · simp only [OR.val.injEq] at h
        obtain ⟨rfl, rfl⟩ := h
        refine fin (.inl ⟨_, _, by assumption, by assumption, by assumption, Nat.le_of_ble_eq_true (by assumption)⟩)
      · cases h
    · split at h
      · simp only [OR.val.injEq] at h
        obtain ⟨rfl, rfl⟩ := h
        refine fin (.inr ⟨_, _, by assumption, by assumption, by assumption, by assumption⟩)
      · cases h
    · cases h
  · cases h
end Go.E
