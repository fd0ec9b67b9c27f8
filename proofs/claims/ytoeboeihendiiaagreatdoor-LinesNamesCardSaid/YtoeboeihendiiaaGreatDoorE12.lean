import Derived.Test.YtoeboeihendiiaaGreatDoorE11
set_option linter.all false
namespace Go.E
open Go.X
attribute [local semireducible] Yl xop
variable {P : Program} {σ : Sig} {N : Nm} {E : T V} {ρ : X.Env} {L : Hp} {Z : Ex} {dst : Option Tmp} {ty : TypeId} {pos : String} {after : Array Edge} {guard : Option (Nat × Bool)}

theorem toBytes_sound {S : St} {e : TypeId} {l : List Nat} (hr : SRel P N S L) (hsm : small l = true) (hz : szT P e = some 1) :
    xwp P σ (Conv.stringToBytes e (bytesOf l)) (fun x L => Wk (Post P N (newObj S ⟨putL .leaf 0 (l.map byteV), l.length, e, none, true, none⟩) (.osl S.nx 0 l.length 0) x) L) L := by
  unfold Conv.stringToBytes
  rw [xwp_bind]
  have hf : ((Question.appendCap (bytesOf l).size 0 e).forced) = false := rfl
  simp only [choose, xwp, hf]
  intro tt
  have hc : l.length ≤ (Question.appendCap (bytesOf l).size 0 e).cut tt := by simp only [Question.cut, bytesOf_size]; omega
  generalize (Question.appendCap (bytesOf l).size 0 e).cut tt = c at hc
  rw [xwp_bind]
  simp only [newRow, xwp_bind, xwp_newObj_eq, xwp_pure_eq]
  intro b
  unfold markStringish
  rw [xwp_bind]
  refine xwp_shape (.inr List.mem_cons_self) ?_
  simp only [shapeOf]
  refine ⟨by omega, _, _, _, _, ⟨[], L, rfl, rfl⟩, ?_⟩
  rw [bytesOf_size]
  refine Wk.intro ⟨N ++ [(b, c)], Ext.app _ _, mk_osl (new_name hr b c) (by omega), hr.new ?_⟩
  have hd : dens (N ++ [(b, c)]) (l.map byteV) = some (l.map fun n : Nat => Value.int .u8 (n : Int)) := by
    clear hsm hc hf
    induction l with
    | nil => rfl
    | cons a l ih => simp only [List.map_cons, dens, byteV, den]; rw [ih]
  have hda : (bytesOf l).data.map (fun b => Value.int .u8 (b.toNat : Int)) = (l.map fun n : Nat => Value.int .u8 (n : Int)).toArray := by
    apply Array.ext'
    rw [Array.toList_map, bytesOf_data, List.map_map]
    refine List.map_congr_left fun n hn => ?_
    have := small_spec hsm n hn
    simp only [Function.comp_apply, Value.int.injEq, true_and]
    rw [UInt8.toNat_ofNat']
    omega
  simp only [hda]
  refine ORel.put hd (fun i hi => ?_) (fun n h => by cases h) (fun h => by cases h) (fun _ => ⟨1, hz, by omega, by omega, ?_⟩)
  · rw [Array.getElem?_append_left (by simpa using hi)]
    simp
  · simp
    omega

theorem xq_shape {r : Nat} {o : Obj} {Q : Option (TypeId × Nat) → Prop} (ha : At σ L r o) (hq : Q (shapeOf o)) : xq P σ (shape r) Q L := ⟨o, ha, hq⟩

theorem xq_viewAt {r : Nat} {cs : Array Value} {e : TypeId} {fz : Nat × Nat} {Q : Option (Addr × TypeId) → Prop} (ha : At σ L r (.cells cs e fz)) (hq : Q none) : xq P σ (viewAt r) Q L := by
  unfold viewAt
  rw [xq_bind]
  exact xq_shape ha hq

theorem xq_seenAt {a : Addr} {cs : Array Value} {e : TypeId} {fz : Nat × Nat} {Q : Addr → Prop} (ha : At σ L a.block (.cells cs e fz)) (hq : Q a) : xq P σ (Conv.seenAt a) Q L := by
  unfold Conv.seenAt
  rw [xq_bind]
  exact xq_viewAt ha hq

theorem ptr_sound {S : St} {s d : TypeId} {k off b c : Nat} {o : O} (hr : SRel P N S L) (hk : N[k]? = some (b, c)) (ho : obj S k = some o)
    (h : (∃ t m, P.underlying s = some (.pointer t) ∧ P.underlying d = some .unsafePointer ∧ szT P t = some (m + 1) ∧ off < o.size) ∨
      (∃ u m, P.underlying s = some .unsafePointer ∧ P.underlying d = some (.pointer u) ∧ szT P u = some (m + 1) ∧ liesAt P P.depth o.e (o.size / P.cellsOf o.e) off u 1 = true)) :
    xq P σ (convert s d (.pointer (some ⟨b, off, none⟩))) (fun x => x = .pointer (some ⟨b, off, none⟩)) L := by
  obtain ⟨b', c', o', hk', hm, hor, hw, _⟩ := hr.at ho
  rw [hk] at hk'
  simp only [Option.some.injEq, Prod.mk.injEq] at hk'
  obtain ⟨rfl, rfl⟩ := hk'
  obtain ⟨cs, fz, rfl, o2, o3, o4, o5⟩ := hor
  have hsize : o.size ≤ cs.size := by
    cases hop : o.op with
    | false => rw [o4 hop]; exact Nat.le_refl _
    | true => obtain ⟨sz, _, _, h6, h7⟩ := o5 hop; omega
  have hat : At σ L b (.cells cs o.e fz) := .inr hm
  unfold convert
  rw [xq_bind, xq_underlying_eq]
  rcases h with ⟨t, m, h1, h2, h3, h4⟩ | ⟨u, m, h1, h2, h3, h4⟩
  · rw [h1]
    simp only
    rw [xq_bind, xq_underlying_eq, h2]
    simp only
    unfold Conv.unsafePointer
    rw [xq_bind, xq_underlying_eq, h1]
    simp only
    rw [xq_bind, xq_underlying_eq, h2]
    simp only
    rw [xq_bind]
    refine xq_seenAt (a := ⟨b, off, none⟩) hat ?_
    rw [xq_bind]
    unfold cellsIn
    rw [xq_bind]
    refine xq_shape hat ?_
    simp only [shapeOf, xq_pure_eq]
    rw [xq_bind, xq_sizeOf_eq, h3]
    simp only
    rw [if_neg (by simp; omega)]
    rfl
  · rw [h1]
    simp only
    rw [xq_bind, xq_underlying_eq, h2]
    simp only
    unfold Conv.unsafePointer
    rw [xq_bind, xq_underlying_eq, h1]
    simp only
    rw [xq_bind, xq_underlying_eq, h2]
    simp only
    rw [xq_bind]
    refine xq_seenAt (a := ⟨b, off, none⟩) hat ?_
    rw [xq_bind, xq_sizeOf_eq, h3]
    simp only
    rw [xq_bind]
    unfold variablesAt
    rw [xq_bind, xq_program_eq, xq_bind]
    refine xq_shape hat ?_
    simp only [shapeOf, xq_pure_eq]
    rw [liesAt_mono (Nat.div_le_div_right hsize) _ _ _ h4]
    simp only [Bool.or_true, if_true]
    rfl

theorem digits_size : ∀ (n t : Nat) (acc : Array Value), (Extern.BytealgMakeNoZero.digits n t acc).size = acc.size + n
  | 0, t, acc => rfl
  | n + 1, t, acc => by
    show (Extern.BytealgMakeNoZero.digits n (t / 256) (acc.push (.int .u8 (Int.ofNat (t % 256))))).size = _
    rw [digits_size n _ _]
    simp
    omega

theorem noZero_sound {S : St} {fn : Func} {t e : TypeId} {n : Nat} {zl : List V} (hr : SRel P N S L) (hz : ExOk P σ Z) (hfn : P.funcs[Z.mn]? = some fn) (ht : fn.resultTypes[0]? = some t) (hel : elT P t = some (e, 1, zl)) (hn : n ≤ 2 ^ 30) :
    xwp P σ (callFunc Z.mn #[.int .i64 (n : Int)]) (xnext P σ fun x L => Wk (Post P N (newObj S ⟨.leaf, n, e, some 0, true, none⟩) (.osl S.nx 0 n 0) x) L) L := by
  obtain ⟨z, by', h1, h2, h3, h4, h5, h6, h7, h8, zs, hzs, hzc, hzo⟩ := elT_spec (N := N) hel
  obtain ⟨g1, g2, g3, g4⟩ := hz.mn fn hfn
  unfold callFunc
  rw [xwp_bind, xwp_program_eq]
  simp only [hfn, g2, g1, g3, g4]
  simp only [Bool.false_eq_true, if_false, Option.isNone_none, if_true]
  rw [xwp_bind]
  change xwp P σ (do pure (Next.value (← Extern.BytealgMakeNoZero.makeNoZero fn.params fn.resultTypes #[.int .i64 (n : Int)]))) _ L
  rw [xv]
  unfold Extern.BytealgMakeNoZero.makeNoZero
  rw [ht]
  change xwp P σ (bind (underlying t) _) _ L
  rw [xwp_bind, xwp_underlying_eq, elemOfSl_spec h1]
  simp only
  rw [if_neg (by simp; omega)]
  rw [xwp_bind]
  have hf : ((Question.appendCap (n : Int).toNat 0 e).forced) = false := rfl
  simp only [choose, xwp, hf]
  intro tt
  have hc : n ≤ (Question.appendCap (n : Int).toNat 0 e).cut tt := by simp only [Question.cut]; omega
  generalize (Question.appendCap (n : Int).toNat 0 e).cut tt = c at hc
  have rest : ∀ bs, xwp P σ (newRow e (Extern.BytealgMakeNoZero.digits c bs #[])) (fun a L => Wk (Post P N (newObj S ⟨.leaf, n, e, some 0, true, none⟩) (.osl S.nx 0 n 0) (.slice (some a) n c)) L) L := by
    intro bs
    simp only [newRow, xwp_bind, xwp_newObj_eq, xwp_pure_eq]
    intro b
    refine Wk.intro ⟨N ++ [(b, c)], Ext.app _ _, mk_osl (new_name hr b c) (by omega), hr.new ?_⟩
    exact ⟨_, (0, 0), rfl, fun i v h => by simp [T.get_leaf] at h, fun _ _ => .inl rfl, fun h => (by cases h), fun _ => ⟨1, h2, by omega, (show n ≤ c * 1 by omega), by rw [digits_size]; simp⟩⟩
  rw [xwp_bind]
  have rest2 : xwp P σ (do let bytes ← choose (.extern "internal/bytealg.MakeNoZero.bytes" 0); let a ← newRow e (Extern.BytealgMakeNoZero.digits c bytes #[]); pure (Value.slice (some a) n c))
      (fun x L => Wk (Post P N (newObj S ⟨.leaf, n, e, some 0, true, none⟩) (.osl S.nx 0 n 0) x) L) L := by
    rw [xwp_bind]
    have hf : ((Question.extern "internal/bytealg.MakeNoZero.bytes" 0).forced) = false := rfl
    simp only [choose, xwp, hf]
    intro bs
    rw [xwp_bind]
    exact rest _
  unfold askRoom
  split
  · exact rest2
  · exact rest2
end Go.E
