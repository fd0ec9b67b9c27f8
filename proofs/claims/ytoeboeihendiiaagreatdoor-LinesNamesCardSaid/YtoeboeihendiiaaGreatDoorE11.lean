import Derived.Test.YtoeboeihendiiaaGreatDoorE10
set_option linter.all false
namespace Go.E
open Go.X
attribute [local semireducible] Yl xop
variable {P : Program} {σ : Sig} {N : Nm} {E : T V} {ρ : X.Env} {L : Hp} {Z : Ex} {dst : Option Tmp} {ty : TypeId} {pos : String} {after : Array Edge} {guard : Option (Nat × Bool)}

theorem xop_builtin {b : Builtin} {args : Array Operand} {tys : Array TypeId} {K : Value → Hp → Prop} {s : Sem Value}
    (hb : ∀ cs, builtin b tys ty cs (args.map (X.ev ρ)) = (do pure (.value (← s)))) (h : xwp P σ s K L) :
    xop P σ ⟨dst, .call { callee := .builtin b, args := args, argTypes := tys }, ty, pos, after, guard⟩ ρ K L := by
  unfold xop
  simp only [execOp, resolve, pure_bind, invoke]
  rw [hb, xv]
  exact h

theorem two_ev {args : Array Operand} {a b : V} (h : dens N [a, b] = some (args.map (X.ev ρ)).toList) : ∃ x y, args.map (X.ev ρ) = #[x, y] ∧ den N a = some x ∧ den N b = some y := by
  unfold dens at h
  split at h
  · rename_i x y hx hy
    unfold dens at hy
    split at hy
    · rename_i x' y' hx' hy'
      simp [dens] at hy'
      subst hy'
      simp only [Option.some.injEq] at hy h
      subst hy
      refine ⟨x, x', ?_, hx, hx'⟩
      apply Array.ext'
      rw [← h]
    · cases hy
  · cases h
theorem one_ev {args : Array Operand} {a : V} (h : dens N [a] = some (args.map (X.ev ρ)).toList) : ∃ x, args.map (X.ev ρ) = #[x] ∧ den N a = some x := by
  unfold dens at h
  split at h
  · rename_i x y hx hy
    simp [dens] at hy
    subst hy
    simp only [Option.some.injEq] at h
    refine ⟨x, ?_, hx⟩
    apply Array.ext'
    rw [← h]
  · cases h

/-! ### more of a row is enough -/
theorem rowAt_mono {fits : TypeId → Bool} {d : Nat} {e : TypeId} {c c' off n : Nat} (hc : c ≤ c') (h : rowAt P fits d e c off n = true) : rowAt P fits d e c' off n = true := by
  cases d with
  | zero => simp [rowAt] at h
  | succ d =>
    unfold rowAt at h ⊢
    simp only at h ⊢
    split at h
    · cases h
    · rename_i hs
      rw [if_neg hs]
      simp only [Bool.or_eq_true, Bool.and_eq_true, decide_eq_true_eq] at h ⊢
      rcases h with ⟨⟨h1, h2⟩, h3⟩ | ⟨h1, h2⟩
      · exact .inl ⟨⟨h1, by omega⟩, h3⟩
      · exact .inr ⟨by omega, h2⟩

theorem liesAt_mono {e : TypeId} {c c' off : Nat} (hc : c ≤ c') : ∀ (d : Nat) (u : TypeId) (n : Nat), liesAt P d e c off u n = true → liesAt P d e c' off u n = true
  | 0, u, n, h => by simp [liesAt] at h
  | d + 1, u, n, h => by
    unfold liesAt at h ⊢
    simp only [Bool.or_eq_true] at h ⊢
    rcases h with h | h
    · exact .inl (rowAt_mono hc h)
    · refine .inr ?_
      split at h
      · exact liesAt_mono hc d _ _ h
      · cases h

theorem bytesL_spec : ∀ {l : List V} {b : List Nat}, bytesL l = some b → l = b.map byteV
  | [], b, h => by simp [bytesL] at h; subst h; rfl
  | v :: l, b, h => by
    unfold bytesL at h
    split at h
    · cases ‹_ = []›
    · rename_i n l' hv
      simp only [List.cons.injEq] at hv
      obtain ⟨rfl, rfl⟩ := hv
      split at h
      · rename_i m hb hm
        simp only [Option.some.injEq] at h
        subst h
        rw [bytesL_spec hm]
        rfl
      · cases h
    · cases h

theorem xq_loadBytes {b : Nat} {Q : ByteArray → Prop} : ∀ (l : List Nat) (off : Nat) (acc : ByteArray), (∀ i (h : i < l.length), Rd σ L ⟨b, off + i, none⟩ (.int .u8 (l[i] : Int))) → Q (acc ++ bytesOf l) →
    xq P σ (loadBytes ⟨b, off, none⟩ acc l.length) Q L
  | [], off, acc, _, hq => by
    show Q acc
    have : acc ++ bytesOf [] = acc := by
      apply ByteArray.ext
      simp [ByteArray.data_append, bytesOf]
    rwa [this] at hq
  | x :: l, off, acc, hr, hq => by
    have h0 := hr 0 (by simp)
    refine ⟨.int .u8 (x : Int), by simpa using h0, ?_⟩
    show xq P σ (loadBytes ((⟨b, off, none⟩ : Addr).add 1) (acc.push (x : Int).toNat.toUInt8) l.length) Q L
    rw [add_mk]
    refine xq_loadBytes l (off + 1) _ (fun i hi => ?_) ?_
    · have := hr (i + 1) (by simp; omega)
      rw [show off + (i + 1) = off + 1 + i from by omega] at this
      simpa using this
    · have : acc.push (x : Int).toNat.toUInt8 ++ bytesOf l = acc ++ bytesOf (x :: l) := by
        apply ByteArray.ext
        apply Array.ext'
        simp [ByteArray.data_append, bytesOf, ByteArray.push]
      rwa [this]

theorem xwp_shape {r : Nat} {o : Obj} {Q : Option (TypeId × Nat) → Hp → Prop} (ha : At σ L r o) (hq : Q (shapeOf o) L) : xwp P σ (shape r) Q L := ⟨o, ha, hq⟩

theorem unsafeString_sound {S : St} {tys : Array TypeId} {k off n b c : Nat} {pt u : TypeId} {o : O} {l : List V} {bs : List Nat} (hr : SRel P N S L) (hk : N[k]? = some (b, c)) (ho : obj S k = some o)
    (hpt : tys[0]? = some pt) (hu : P.underlying pt = some (.pointer u)) (hl : liesAt P P.depth o.e (o.size / P.cellsOf o.e) off u (n + 1) = true) (hn : n + 1 ≤ 2 ^ 40)
    (hg : getL o.cells (n + 1) off = some l) (hb : bytesL l = some bs) :
    xwp P σ (Builtin.unsafeString_ tys ty #[.pointer (some ⟨b, off, none⟩), .int .i64 ((n + 1 : Nat) : Int)])
      (fun x L => Wk (Post P N (setObj S k { o with fz := o.fz.map fun f => Nat.max f (off + (n + 1)) }) (.str bs) x) L) L := by
  obtain ⟨b', c', o', hk', hm, hor, hw, _⟩ := hr.at ho
  rw [hk] at hk'
  simp only [Option.some.injEq, Prod.mk.injEq] at hk'
  obtain ⟨rfl, rfl⟩ := hk'
  obtain ⟨cs, fz, rfl, o2, o3, o4, o5⟩ := hor
  obtain ⟨xs, hxs, hrd⟩ := getL_rd (σ := σ) hr ho hg hk
  have hsize : o.size ≤ cs.size := by
    cases hop : o.op with
    | false => rw [o4 hop]; exact Nat.le_refl _
    | true => obtain ⟨sz, _, _, h6, h7⟩ := o5 hop; omega
  have hlb := bytesL_spec hb
  have hlen := (getL_spec _ _ _ _ hg).1
  have hbl : bs.length = n + 1 := by rw [← hlen, hlb]; simp
  have hlie : liesAt P P.depth o.e (cs.size / P.cellsOf o.e) off u (n + 1) = true := liesAt_mono (Nat.div_le_div_right hsize) _ _ _ hl
  refine (show xwp P σ (bind (asInt (.int .i64 ((n + 1 : Nat) : Int))) _) _ L from ?_)
  simp only [asInt, asIntOf, pure_bind, hpt]
  rw [if_neg (by omega), if_neg (by simp only [IntKind.max, IntKind.signed, IntKind.bits]; omega)]
  rw [if_neg (by omega)]
  rw [xwp_bind]
  unfold elemOf
  rw [xwp_bind, xwp_underlying_eq, hu]
  simp only [xwp_pure_eq]
  rw [xwp_bind]
  unfold variablesAt
  rw [xwp_bind, xwp_program_eq, xwp_bind]
  refine xwp_shape (.inr hm) ?_
  simp only [shapeOf, xwp_pure_eq]
  have e1 : (((n + 1 : Nat) : Int)).toNat = n + 1 := by omega
  rw [e1, hlie]
  simp only [if_true]
  rw [xwp_bind]
  refine xq_xwp (Q := fun r => r = bytesOf bs) _ (fun r hr' => ?_) ?_
  · subst hr'
    rw [xwp_bind]
    have hor' : ORel P N c { o with fz := o.fz.map fun f => Nat.max f (off + (n + 1)) } (.cells cs o.e (frz off (n + 1) fz)) := by
      refine ORelC.o (obj_get ho).2 ⟨cs, _, rfl, o2, ?_, o4, o5⟩
      intro f hf
      simp only [Option.map_eq_some_iff] at hf
      obtain ⟨f0, hf0, rfl⟩ := hf
      have := o3 f0 hf0
      obtain ⟨lo, hi⟩ := fz
      simp only [frz] at this ⊢
      right
      split
      · exact Nat.le_max_right _ _
      · rename_i hne
        simp only [beq_iff_eq] at hne
        have : hi ≤ f0 := by omega
        show max hi (off + (n + 1)) ≤ max f0 (off + (n + 1))
        omega
    obtain ⟨L', hrep, hsr⟩ := hw _ _ hor'
    refine ⟨by omega, cs, o.e, fz, L', hrep, ?_⟩
    exact Wk.intro ⟨N, Ext.refl N, rfl, hsr⟩
  · have := xq_loadBytes (P := P) (σ := σ) (L := L) (b := b) (Q := fun r => r = bytesOf bs) bs off .empty ?_ ?_
    · rw [hbl] at this; exact this
    · intro i hi
      obtain ⟨r1, r2, cc, e, f, ra, rc⟩ := hrd
      refine ⟨rfl, cc, e, f, ra, ?_⟩
      rw [rc i (by omega)]
      obtain ⟨x, hx, hdx⟩ := dens_get hxs (i := i) (v := byteV bs[i]) (by rw [hlb]; simp [hi])
      simp only [List.getElem?_toArray, hx]
      simp [byteV, den] at hdx
      rw [hdx]
    · apply ByteArray.ext
      apply Array.ext'
      simp [ByteArray.data_append, bytesOf]
end Go.E
