import Derived.Test.YtoeboeihendiiaaGreatDoorE9
set_option linter.all false
namespace Go.E
open Go.X
attribute [local semireducible] Yl xop
variable {P : Program} {σ : Sig} {N : Nm} {E : T V} {ρ : X.Env} {L : Hp} {Z : Ex} {dst : Option Tmp} {ty : TypeId} {pos : String} {after : Array Edge} {guard : Option (Nat × Bool)}

theorem RdN.pre {b off m k : Nat} {xs : List Value} (h : RdN σ L ⟨b, off, none⟩ m xs.toArray) (hk : k ≤ m) : RdN σ L ⟨b, off, none⟩ k (xs.take k).toArray := by
  obtain ⟨h1, h2, c, e, fz, ha, hc⟩ := h
  simp only [List.size_toArray] at h1
  refine ⟨by simp; omega, rfl, c, e, fz, ha, fun i hi => ?_⟩
  rw [hc i (by omega)]
  simp [hi]

/-- what append and copy read -/
theorem srcV_spec {S : St} (hr : SRel P N S L) {sz m : Nat} {w : V} {x : Value} {new : List V} (h : srcV P S sz w = some (m, new)) (hd : den N w = some x) :
    ∃ xs, dens N new = some xs ∧ xs.length = m * sz ∧ Builtin.lenOf x = pure m ∧ ∀ k, k ≤ m → xq P σ (Builtin.firstCells sz k x) (fun a => a = (xs.take (k * sz)).toArray) L := by
  unfold srcV at h
  split at h
  · rename_i l
    split at h
    · rename_i hc
      simp only [Bool.and_eq_true] at hc
      have hs := Nat.eq_of_beq_eq_true hc.2
      subst hs
      simp only [Option.some.injEq, Prod.mk.injEq] at h
      obtain ⟨rfl, rfl⟩ := h
      obtain rfl := den_str hd
      refine ⟨l.map fun n : Nat => Value.int .u8 (n : Int), ?_, by simp, ?_, ?_⟩
      · clear hc hd
        induction l with
        | nil => rfl
        | cons a l ih => simp only [List.map_cons, dens, byteV, den]; rw [ih]
      · show (pure (bytesOf l).size : Sem Nat) = _
        rw [bytesOf_size]
      · intro k hk
        show _ = _
        apply Array.ext'
        simp only [Array.toList_map, ByteArray.data_extract, Array.toList_extract, Nat.mul_one]
        rw [List.extract_eq_take_drop]
        simp only [List.drop_zero, Nat.sub_zero, List.map_take]
        congr 1
        rw [bytesOf_data, List.map_map]
        refine List.map_congr_left fun n hn => ?_
        have := small_spec hc.1 n hn
        simp only [Function.comp_apply, Value.int.injEq, true_and]
        rw [UInt8.toNat_ofNat']
        omega
    · cases h
  · simp only [Option.some.injEq, Prod.mk.injEq] at h
    obtain ⟨rfl, rfl⟩ := h
    obtain rfl := den_lit hd
    exact ⟨[], rfl, by simp, rfl, fun k hk => by simp; rfl⟩
  · rename_i k off n c
    cases ho : obj S k with
    | none => simp [ho] at h
    | some o =>
      simp only [ho, Option.bind_some] at h
      cases hg : getL o.cells (n * sz) off with
      | none => simp [hg] at h
      | some l =>
        simp only [hg, Option.map_some, Option.some.injEq, Prod.mk.injEq] at h
        obtain ⟨rfl, rfl⟩ := h
        obtain ⟨b, c', hk, rfl⟩ := den_sl hd
        obtain ⟨xs, hxs, hrd⟩ := getL_rd (σ := σ) hr ho hg hk
        exact ⟨xs, hxs, by simpa using hrd.1, rfl, fun k hk' => xq_loadCells (RdN.pre hrd (Nat.mul_le_mul_right _ hk')) rfl⟩
  · rename_i k off n c
    cases ho : obj S k with
    | none => simp [ho] at h
    | some o =>
      simp only [ho, Option.bind_some] at h
      cases hg : getL o.cells (n * sz) off with
      | none => simp [hg] at h
      | some l =>
        simp only [hg, Option.map_some, Option.some.injEq, Prod.mk.injEq] at h
        obtain ⟨rfl, rfl⟩ := h
        obtain ⟨b, c', hk, _, rfl⟩ := den_osl hd
        obtain ⟨xs, hxs, hrd⟩ := getL_rd (σ := σ) hr ho hg hk
        exact ⟨xs, hxs, by simpa using hrd.1, rfl, fun k hk' => xq_loadCells (RdN.pre hrd (Nat.mul_le_mul_right _ hk')) rfl⟩
  · rename_i k off n lo d
    simp only [Option.some.injEq, Prod.mk.injEq] at h
    obtain ⟨rfl, rfl⟩ := h
    obtain ⟨b, c', hk, _, rfl⟩ := den_tl hd
    refine ⟨[], rfl, by simp, rfl, fun k hk' => ?_⟩
    obtain rfl : k = 0 := by omega
    split
    · show xq P σ (loadCells _ (0 * sz)) _ _
      rw [Nat.zero_mul]; rfl
    · show xq P σ (loadCells _ (0 * sz)) _ _
      rw [Nat.zero_mul]; rfl
  · cases h

theorem all_one {l : List V} {xs : List Value} (h : l.all oneV = true) (hd : dens N l = some xs) : ∀ u ∈ xs, u.oneCell = true := by
  intro u hu
  obtain ⟨v, hv, hdv⟩ := dens_mem hd hu
  rw [List.all_eq_true] at h
  exact oneV_spec (h v hv) hdv

/-- the cells that are known, in the block itself -/
theorem getL_cs {o : O} {cs : Array Value} (h2 : ∀ i v, o.cells.get i = some v → ∃ x, den N v = some x ∧ cs[i]? = some x) {n off : Nat} {l : List V} {xs : List Value} (hl : getL o.cells n off = some l) (hd : dens N l = some xs) :
    ∀ i, i < n → cs[off + i]? = xs[i]? := by
  intro i hi
  obtain ⟨g1, g2⟩ := getL_spec _ _ _ _ hl
  obtain ⟨x, hx, hdx⟩ := dens_get hd (List.getElem?_eq_getElem (show i < l.length by omega))
  obtain ⟨y, hy, hc⟩ := h2 (off + i) l[i] (by rw [g2 i hi]; exact List.getElem?_eq_getElem (show i < l.length by omega))
  rw [hdx] at hy
  simp only [Option.some.injEq] at hy
  rw [hc, hx, hy]

theorem append_sound {S S' : St} {t t' : TypeId} {sx xx : Value} {sv xv v : V} (hr : SRel P N S L) (ht' : srcT P t' = true) (hs : den N sv = some sx) (hx : den N xv = some xx) (h : appV P S t sv xv = .val v S') :
    xwp P σ (Builtin.append_ #[t, t'] ty #[sx, xx]) (fun x L => Wk (Post P N S' v x) L) L := by
  unfold appV at h
  obtain ⟨⟨e, sz, zl⟩, hel, h⟩ := bnd_val h
  obtain ⟨⟨m, new⟩, hsrc, h⟩ := bnd_val h
  obtain ⟨z, by', h1, h2, h3, h4, h5, h6, h7, h8, zs, hzs, hzc, hzo⟩ := elT_spec (N := N) hel
  simp only at h
  have hzl := dens_len hzs
  have hzsz : z.cells.size = sz := by rw [hzc]; simp; omega
  obtain ⟨xs, hxs, hxl, hlen, hfirst⟩ := srcV_spec (σ := σ) hr hsrc hx
  have hSrc : Src P σ sz m (xx) xs L := ⟨hlen, by have := hfirst m (Nat.le_refl _); rwa [← hxl, List.take_length] at this⟩
  have hnl := dens_len hxs
  split at h
  · cases h
  · rename_i hall
    have hone := all_one hall hxs
    -- growing
    have grow : ∀ (old : List V) (ys : List Value) (n cap : Nat) (base : Option Addr), dens N old = some ys → ys.length = n * sz → cap < n + m → n + m ≤ 2 ^ 30 → xq P σ (Builtin.firstCells sz n (.slice base n cap)) (fun r => r = ys.toArray) L →
        ∀ Q : Value → Hp → Prop, (∀ b c cs, n + m ≤ c → c * sz = cs.size → (∀ i, i < (ys ++ xs).length → cs[i]? = (ys ++ xs)[i]?) → Q (.slice (some ⟨b, 0, none⟩) (n + m) c) ((b, .cells cs e (0, 0)) :: L)) →
        xwp P σ (Builtin.append_ #[t, t'] ty #[.slice base n cap, xx]) Q L := by
      intro old ys n cap base hold hyl hcap hbig hfc Q hQ
      refine xwp_append_grow h1 h2 h3 h4 ht' hfc hSrc hcap ?_ h8 h7 fun b c hc => hQ b c _ hc ?_ ?_
      · have := Nat.mul_le_mul hbig h8
        omega
      · simp only [Array.size_append, zeroCells_size, hzsz, List.size_toArray]
        rw [hyl, hxl, ← Nat.add_mul, ← Nat.add_mul]
        congr 1
        omega
      · intro i hi
        rw [Array.getElem?_append_left (by simpa using hi)]
        simp
    have grown : ∀ (old : List V) (ys : List Value) (n : Nat) (b c : Nat) (cs : Array Value), dens N old = some ys → ys.length = n * sz → n + m ≤ c → c * sz = cs.size → (∀ i, i < (ys ++ xs).length → cs[i]? = (ys ++ xs)[i]?) → ∀ (fz : Option Nat),
        ORel P (N ++ [(b, c)]) c ⟨putL .leaf 0 (old ++ new), (n + m) * sz, e, fz, true, none⟩ (.cells cs e (0, 0)) := by
      intro old ys n b c cs hold hyl hle hcs hget fz
      exact ORel.put (dens_ext (Ext.app _ _) (dens_append hold hxs)) hget (fun n _ => .inl rfl) (fun h => by cases h) (fun _ => ⟨sz, h2, h6, Nat.mul_le_mul_right _ hle, by omega⟩)
    split at h
    · -- nil
      have hs' := den_lit hs
      subst hs'
      split at h
      · simp only [OR.val.injEq] at h
        obtain ⟨rfl, rfl⟩ := h
        have hxn : xs = [] := List.eq_nil_of_length_eq_zero (by omega)
        subst hxn
        rcases srcT_spec ht' with hu | ⟨e', hu⟩ <;>
        · simp [Builtin.append_, xwp_bind, xwp_underlying_eq, xwp_sizeOf_eq, elemOfSl_spec h1, h2, hu, hSrc.1, xwp_map]
          exact xq_xwp _ (fun r hr' => by
            subst hr'
            exact Wk.intro ⟨N, Ext.refl N, rfl, hr⟩) hSrc.2
      · rename_i m'
        split at h
        · rename_i hbig
          have hbig := Nat.le_of_ble_eq_true hbig
          simp only [OR.val.injEq] at h
          obtain ⟨rfl, rfl⟩ := h
          refine grow [] [] 0 0 none rfl (by simp) (by omega) (by omega) rfl _ fun b c cs hc hcs hget => Wk.intro ⟨N ++ [(b, c)], Ext.app _ _, mk_osl (new_name hr b c) (by omega), hr.new (grown [] [] 0 b c cs rfl (by simp) hc hcs hget _)⟩
        · cases h
    · -- a row with room
      rename_i k off n cap _ _
      obtain ⟨b, c, hk, hs'⟩ := den_sl hs
      subst hs'
      split at h
      · rename_i hfit
        have hfit := Nat.le_of_ble_eq_true hfit
        obtain ⟨S1, hS, h⟩ := bnd_val h
        simp only [OR.val.injEq] at h
        obtain ⟨rfl, rfl⟩ := h
        obtain ⟨b', c', hk', L', hwr, hsr⟩ := storeV_wr hr hS hxs
        rw [hk] at hk'
        simp only [Option.some.injEq, Prod.mk.injEq] at hk'
        obtain ⟨rfl, rfl⟩ := hk'
        exact xwp_append_fit h1 h2 ht' hSrc hfit rfl hone (by rw [add_mk]; exact hwr) (Wk.intro ⟨N, Ext.refl N, mk_sl hk, hsr⟩)
      · rename_i hfit
        have hfit : ¬ (n + m ≤ cap) := fun hle => by rw [Nat.ble_eq_true_of_le hle] at hfit; cases hfit
        obtain ⟨o, ho, h⟩ := bnd_val h
        obtain ⟨old, hold, h⟩ := bnd_val h
        split at h
        · rename_i hbig
          have hbig := Nat.le_of_ble_eq_true hbig
          simp only [OR.val.injEq] at h
          obtain ⟨rfl, rfl⟩ := h
          obtain ⟨ys, hys, hrd⟩ := getL_rd (σ := σ) hr ho hold hk
          have hyl : ys.length = n * sz := by simpa using hrd.1
          refine grow old ys n cap _ hys hyl (by omega) hbig (xq_loadCells (Q := fun r => r = ys.toArray) hrd rfl) _ fun b c cs hc hcs hget => Wk.intro ⟨N ++ [(b, c)], Ext.app _ _, mk_osl (new_name hr b c) (by omega), hr.new (grown old ys n b c cs hys hyl hc hcs hget _)⟩
        · cases h
    · -- an open row
      rename_i k off n lo _ _
      obtain ⟨b, c, hk, hcap, hs'⟩ := den_osl hs
      subst hs'
      obtain ⟨o, ho, h⟩ := bnd_val h
      obtain ⟨b0, c0, o', hk0, hm, ⟨cs, fz, rfl, o2, o3, o4, o5⟩, hw, hw2, L2, hperm, hw3⟩ := hr.at ho
      rw [hk] at hk0
      simp only [Option.some.injEq, Prod.mk.injEq] at hk0
      obtain ⟨rfl, rfl⟩ := hk0
      split at h
      · rename_i hc
        simp only [Bool.and_eq_true] at hc
        have q1 := Nat.eq_of_beq_eq_true hc.1.1.1
        have q2 := Nat.le_of_ble_eq_true hc.1.1.2
        have q3 := hc.1.2
        have q4 := Nat.eq_of_beq_eq_true hc.2
        obtain ⟨sz', h2', _, o6, o7⟩ := o5 q3
        rw [q4, h2] at h2'
        simp only [Option.some.injEq] at h2'
        subst h2'
        have hfit : n + m ≤ c - lo := by
          have : (lo + (n + m)) * sz ≤ c * sz := by rw [Nat.add_mul]; omega
          have := Nat.le_of_mul_le_mul_right this h6
          omega
        obtain ⟨S1, hS, h⟩ := bnd_val h
        simp only [OR.val.injEq] at h
        obtain ⟨rfl, rfl⟩ := h
        obtain ⟨b', c', hk', L', hwr, hsr⟩ := storeV_wr hr hS hxs
        rw [hk] at hk'
        simp only [Option.some.injEq, Prod.mk.injEq] at hk'
        obtain ⟨rfl, rfl⟩ := hk'
        exact xwp_append_fit h1 h2 ht' hSrc hfit rfl hone (by rw [add_mk]; exact hwr) (Wk.intro ⟨N, Ext.refl N, mk_osl hk (by omega), hsr⟩)
      · obtain ⟨old, hold, h⟩ := bnd_val h
        split at h
        · rename_i hc
          simp only [Bool.and_eq_true] at hc
          have q1 := Nat.eq_of_beq_eq_true hc.1.1.1.1.1.1
          have q2 := Nat.eq_of_beq_eq_true hc.1.1.1.1.1.2
          have q3 := hc.1.1.1.1.2
          have q4 := hc.1.1.1.2
          have q5 := Nat.eq_of_beq_eq_true hc.1.1.2
          have q6 := Nat.le_of_ble_eq_true hc.1.2
          simp only [OR.val.injEq] at h
          obtain ⟨rfl, rfl⟩ := h
          subst q1; subst q2
          obtain ⟨ys, hys, hrd⟩ := getL_rd (σ := σ) hr ho hold hk
          have hyl : ys.length = n * sz := by simpa using hrd.1
          have hcs := getL_cs o2 hold hys
          obtain ⟨sz', h2', _, o6, o7⟩ := o5 q4
          rw [q5, h2] at h2'
          simp only [Option.some.injEq] at h2'
          subst h2'
          simp only [Nat.sub_zero]
          by_cases hfit : n + m ≤ c
          · -- in place
            have hle : n * sz + m * sz ≤ cs.size := by
              have := Nat.mul_le_mul_right sz hfit
              rw [Nat.add_mul] at this
              omega
            have hor : ORel P (N ++ [(b, c)]) c ⟨putL .leaf 0 (old ++ new), (n + m) * sz, e, o.fz, true, none⟩ (.cells (putN cs (n * sz) xs) o.e fz) := by
              rw [q5]
              refine ORel.put (dens_ext (Ext.app _ _) (dens_append hys hxs)) ?_ o3 (fun h => by cases h) (fun _ => ⟨sz, h2, h6, Nat.mul_le_mul_right _ hfit, by rw [putN_size]; exact o7⟩)
              intro i hi
              simp only [List.length_append] at hi
              rw [putN_get _ _ _ _ (by omega)]
              split
              · rw [List.getElem?_append_right (by omega), hyl]
              · rw [List.getElem?_append_left (by omega)]
                have := hcs i (by omega)
                rwa [Nat.zero_add] at this
            obtain ⟨L', hrep, hsr⟩ := hw2 _ _ hor
            refine xwp_append_fit h1 h2 ht' hSrc hfit rfl hone (L' := L') ?_ (Wk.intro ⟨N ++ [(b, c)], Ext.app _ _, mk_osl (new_name hr b c) (by omega), hsr⟩)
            rw [add_mk, Nat.zero_add]
            refine ⟨rfl, cs, o.e, fz, by show n * sz + xs.length ≤ cs.size; omega, ?_, hrep⟩
            intro i hi
            unfold freeAt at q3
            split at q3
            · rename_i f hf
              have q3 := Nat.le_of_ble_eq_true q3
              rcases o3 f hf with h | h
              · simp; omega
              · simp; omega
            · cases q3
          · -- moved
            refine grow old ys n c _ hys hyl (by omega) q6 (xq_loadCells (Q := fun r => r = ys.toArray) hrd rfl) _ fun b1 c1 cs1 hc1 hcs1 hget => ?_
            refine ⟨(b1, .cells cs1 e (0, 0)) :: L2, [(b, .cells cs o.e fz)], ?_, N ++ [(b1, c1)], Ext.app _ _, mk_osl (new_name hr b1 c1) (by omega), hw3 b1 c1 _ _ (grown old ys n b1 c1 cs1 hys hyl hc1 hcs1 hget _)⟩
            simpa using hperm
        · cases h
    · cases h
end Go.E
