import Derived.Test.YtoeboeihendiiaaGreatDoorE13
set_option linter.all false
namespace Go.E
open Go.X
attribute [local semireducible] Yl xop
variable {P : Program} {σ : Sig} {N : Nm} {E : T V} {ρ : X.Env} {L : Hp} {Z : Ex} {dst : Option Tmp} {ty : TypeId} {pos : String} {after : Array Edge} {guard : Option (Nat × Bool)}

/-! maps -/
theorem intEq_spec : ∀ {a b : Int}, intEq a b = (a == b)
  | .ofNat a, .ofNat b => by
    unfold intEq
    rw [Bool.eq_iff_iff]
    simp
    omega
  | .ofNat a, .negSucc b => by simp [intEq]
  | .negSucc a, .ofNat b => by simp [intEq]
  | .negSucc a, .negSucc b => by
    unfold intEq
    rw [Bool.eq_iff_iff]
    simp

theorem ba_beq (s t : ByteArray) : (s == t) = (s.data == t.data) := rfl
theorem ba_refl (s : ByteArray) : (s == s) = true := by rw [ba_beq]; exact beq_self_eq_true _

theorem bytes_eq {a b : List Nat} (ha : small a = true) (hb : small b = true) : (bytesOf a == bytesOf b) = strEq a b := by
  cases h : strEq a b with
  | true => rw [strEq_spec.1 h]; exact ba_refl _
  | false =>
    have : a ≠ b := fun he => by rw [strEq_spec.2 he] at h; cases h
    rw [ba_beq]
    simp only [beq_eq_false_iff_ne, ne_eq]
    intro he
    refine this (bytes_inj ha hb ?_)
    rw [← bytesOf_data, ← bytesOf_data, he]

theorem keyEq_spec {kt : TypeId} {kd : TypeDesc} {k k' : V} {x y : Value} {r : Bool} (hu : P.underlying kt = some kd) (hok : keyOk P kt k = true) (h : keyEq k k' = some r) (hk : den N k = some x) (hk' : den N k' = some y) :
    Instr.sameNow kd x y = some r ∧ (r = true → x = y) := by
  unfold keyOk at hok
  rw [hu] at hok
  unfold keyEq at h
  split at h
  · rename_i a b
    split at h
    · rename_i hs
      simp only [Bool.and_eq_true] at hs
      simp only [Option.some.injEq] at h
      subst h
      obtain rfl := den_str hk
      obtain rfl := den_str hk'
      cases kd <;> simp only at hok <;> first | (cases hok; done) | skip
      refine ⟨?_, fun h => by rw [strEq_spec.1 h]⟩
      unfold Instr.sameNow
      simp only [bytes_eq hs.1 hs.2]
    · cases h
  · rename_i ka a kb b
    split at h
    · rename_i hd
      simp only [decide_eq_true_eq] at hd
      subst hd
      simp only [Option.some.injEq] at h
      subst h
      obtain rfl := den_int hk
      obtain rfl := den_int hk'
      cases kd <;> simp only at hok <;> first | (cases hok; done) | skip
      refine ⟨?_, fun h => by rw [intEq_spec] at h; rw [eq_of_beq h]⟩
      unfold Instr.sameNow
      simp [intEq_spec]
    · cases h
  · cases h

def FndR (N : Nm) (xs : List MapEntry) (x : Value) (i0 : Nat) : Option (Nat × V) → Option (Nat × Value) → Prop
  | none, none => True
  | some (i, v), some (j, u) => i = j ∧ den N v = some u ∧ i0 ≤ i ∧ ∃ e, xs[i - i0]? = some e ∧ e.key = x ∧ e.val = u
  | _, _ => False

theorem findK_spec {kt : TypeId} {kd : TypeDesc} {k : V} {x : Value} (hu : P.underlying kt = some kd) (hok : keyOk P kt k = true) (hk : den N k = some x) {es : List (V × V × Nat)} {xs : List MapEntry} (hf : F2 (EntR N) es xs) :
    ∀ (i : Nat) {r : Option (Nat × V)}, findK k es i = some r → ∃ r', Instr.findNow kd x xs i = some r' ∧ FndR N xs x i r r' := by
  induction hf with
  | nil => intro i r h; simp [findK] at h; subst h; exact ⟨none, rfl, trivial⟩
  | @cons e y es xs hey t ih =>
    intro i r h
    obtain ⟨k', v', b⟩ := e
    unfold findK at h
    split at h
    · rename_i hq
      simp only [Option.some.injEq] at h
      subst h
      obtain ⟨h1, h2⟩ := keyEq_spec hu hok hq hk hey.1
      refine ⟨some (i, y.val), ?_, rfl, hey.2.1, Nat.le_refl _, y, by simp, (h2 rfl).symm, rfl⟩
      unfold Instr.findNow
      rw [h1]
    · rename_i hq
      obtain ⟨h1, h2⟩ := keyEq_spec hu hok hq hk hey.1
      obtain ⟨r', g1, g2⟩ := ih (i + 1) h
      refine ⟨r', ?_, ?_⟩
      · unfold Instr.findNow
        rw [h1]
        exact g1
      · cases r with
        | none => cases r' with
          | none => trivial
          | some q => exact g2.elim
        | some q => cases r' with
          | none => exact g2.elim
          | some q' =>
            obtain ⟨a, c⟩ := q
            obtain ⟨a', c'⟩ := q'
            obtain ⟨h3, h4, h5, e, h6, h7, h8⟩ := g2
            refine ⟨h3, h4, by omega, e, ?_, h7, h8⟩
            rw [show a - i = (a - (i + 1)) + 1 from by omega]
            simpa using h6
    · cases h

theorem keyOk_desc {kt : TypeId} {k : V} (hok : keyOk P kt k = true) : ∃ kd, P.underlying kt = some kd ∧ ((∃ q, kd = .int q) ∨ kd = .string) := by
  unfold keyOk at hok
  split at hok
  · rename_i q _ _ hu; exact ⟨_, hu, .inl ⟨_, rfl⟩⟩
  · rename_i hu; exact ⟨_, hu, .inr rfl⟩
  · cases hok

theorem xwp_checkKey2 {kt : TypeId} {kd : TypeDesc} {x : Value} {b : Bool} {Q : Unit → Hp → Prop} (hu : P.underlying kt = some kd) (hk : (∃ q, kd = .int q) ∨ kd = .string) (hq : Q () L) : xwp P σ (Instr.checkKey b 10000 kt x) Q L := by
  show xwp P σ (Instr.checkKey b (9999 + 1) kt x) Q L
  unfold Instr.checkKey
  rw [xwp_bind, xwp_underlying_eq, hu]
  rcases hk with ⟨q, rfl⟩ | rfl <;> exact hq

theorem xwp_findKey2 {kt : TypeId} {kd : TypeDesc} {x : Value} {xs : List MapEntry} {r : Option (Nat × Value)} {Q : Option (Nat × Value) → Hp → Prop} (hu : P.underlying kt = some kd) (hf : Instr.findNow kd x xs 0 = some r) (hq : Q r L) :
    xwp P σ (Instr.findKey kt x xs) Q L := by
  unfold Instr.findKey
  rw [xwp_bind, xwp_underlying_eq, hu]
  simp only [hf]
  exact hq

theorem F2.app1 {α β : Type} {R : α → β → Prop} {l : List α} {m : List β} (f : F2 R l m) {a : α} {b : β} (h : R a b) : F2 R (l ++ [a]) (m ++ [b]) := f.app (.cons h .nil)

theorem setE_rel {es : List (V × V × Nat)} {xs : List MapEntry} (hf : F2 (EntR N) es xs) {v : V} {u : Value} (hv : den N v = some u) : ∀ (i : Nat) {e : MapEntry}, xs[i]? = some e →
    F2 (EntR N) (setE v i es) (xs.modify i fun q => { q with key := e.key, val := u }) := by
  induction hf with
  | nil => intro i e h; simp at h
  | @cons a y es xs hey t ih =>
    intro i e h
    obtain ⟨k', v', b⟩ := a
    cases i with
    | zero =>
      simp at h
      subst h
      simp only [setE, List.modify_zero_cons]
      exact .cons ⟨hey.1, hv, hey.2.2⟩ t
    | succ i =>
      simp only [List.getElem?_cons_succ] at h
      simp only [setE, List.modify_succ_cons]
      exact .cons hey (ih i h)

theorem delE_rel {es : List (V × V × Nat)} {xs : List MapEntry} (hf : F2 (EntR N) es xs) : ∀ (i : Nat), F2 (EntR N) (delE i es) (xs.eraseIdx i) := by
  induction hf with
  | nil => intro i; cases i <;> exact .nil
  | @cons a y es xs hey t ih =>
    intro i
    cases i with
    | zero => exact t
    | succ i => exact .cons hey (ih i)

theorem sameBits_key {kt : TypeId} {k : V} {x : Value} (hok : keyOk P kt k = true) (hk : den N k = some x) : Instr.sameBits 10000 x x = true := by
  unfold keyOk at hok
  split at hok
  · rename_i hu
    obtain rfl := den_int hk
    show Instr.sameBits (9999 + 1) _ _ = true
    unfold Instr.sameBits
    simp
  · rename_i hu
    obtain rfl := den_str hk
    show Instr.sameBits (9999 + 1) _ _ = true
    unfold Instr.sameBits
    exact ba_refl _
  · cases hok

theorem setM_sound {S S' : St} {t : TypeId} {mv kv xv v : V} {m k x : Value} (hr : SRel P N S L) (hm : den N mv = some m) (hk : den N kv = some k) (hx : den N xv = some x) (h : setM P t mv kv xv S = .val v S') :
    xwp P σ (Instr.mapUpdate t m k x) (fun _ L => Wk (Post P N S' v undef) L) L := by
  unfold setM at h
  split at h
  · rename_i kt et j hmt
    obtain ⟨b, c, hj, rfl⟩ := den_mp hm
    split at h
    · rename_i es ck hkob hok
      obtain ⟨r, hfd, h⟩ := bnd_val h
      obtain ⟨kd, hu, hkd⟩ := keyOk_desc hok
      obtain ⟨b', c', o', hj', hmem, ⟨xs, rfl, hF⟩, hw, _⟩ := hr.atK (show kob S j = some (.map es ck) by assumption)
      rw [hj] at hj'
      simp only [Option.some.injEq, Prod.mk.injEq] at hj'
      obtain ⟨rfl, rfl⟩ := hj'
      obtain ⟨r', hfn, hR⟩ := findK_spec hu hok hk hF 0 hfd
      unfold Instr.mapUpdate
      rw [xwp_bind, xwp_underlying_eq, mapT_spec (show mapT P t = some (kt, et) by assumption)]
      simp only
      rw [xwp_bind]
      refine ⟨_, .inr hmem, trivial, ?_⟩
      refine (show xwp P σ (bind (Instr.checkKey _ 10000 kt k) _) _ L from ?_)
      rw [xwp_bind]
      refine xwp_checkKey2 hu hkd ?_
      rw [xwp_bind]
      refine xwp_findKey2 hu hfn ?_
      cases r with
      | none =>
        cases r' with
        | some q => exact hR.elim
        | none =>
          simp only [OR.val.injEq] at h
          obtain ⟨rfl, rfl⟩ := h
          obtain ⟨L', hrep, hsr⟩ := hw (.map (es ++ [(kv, xv, ck)]) (ck + 1)) (.map (xs ++ [({ key := k, val := x, born := ck } : MapEntry)]).toArray (ck + 1)) ⟨_, rfl, hF.app1 (show EntR N (kv, xv, ck) ⟨k, x, ck⟩ from ⟨hk, hx, rfl⟩)⟩
          show xwp P σ (Sem.setObj b (.map (xs.toArray.push { key := k, val := x, born := ck }) (ck + 1)) (Sem.pure ())) _ L
          refine ⟨.map xs.toArray ck, L', ?_, trivial, Wk.intro ⟨N, Ext.refl N, rfl, hsr⟩⟩
          simpa using hrep
      | some q =>
        cases r' with
        | none => exact hR.elim
        | some q' =>
          obtain ⟨i, w⟩ := q
          obtain ⟨i', u⟩ := q'
          obtain ⟨rfl, hwu, _, e, he, hek, heu⟩ := hR
          simp only [Nat.sub_zero] at he
          simp only [OR.val.injEq] at h
          obtain ⟨rfl, rfl⟩ := h
          simp only
          rw [xwp_bind]
          have hkey : ((xs.toArray[i]?).map (·.key)).getD k = k := by simp [he, hek]
          simp only [hkey]
          unfold Instr.keyThatStays
          rw [if_pos (sameBits_key hok hk), xwp_pure_eq]
          obtain ⟨L', hrep, hsr⟩ := hw (.map (setE xv i es) ck) (.map (xs.modify i fun q => { q with key := e.key, val := x }).toArray ck) ⟨_, rfl, setE_rel hF hx i he⟩
          show xwp P σ (Sem.setObj b (.map (xs.toArray.modify i fun q => { q with key := k, val := x }) ck) (Sem.pure ())) _ L
          refine ⟨.map xs.toArray ck, L', ?_, trivial, Wk.intro ⟨N, Ext.refl N, rfl, hsr⟩⟩
          have e3 : xs.toArray.modify i (fun q => { q with key := k, val := x }) = (xs.modify i fun q => { q with key := e.key, val := x }).toArray := by
            rw [hek]
            apply Array.ext'
            simp
          rw [e3]
          exact hrep
    · cases h
  · cases h

theorem okV_spec {ok b : Bool} {v : V} {x : Value} (h : den N v = some x) : den N (okV ok v b) = some (if ok then .tuple #[x, .bool b] else x) := by
  cases ok with
  | true => simp [okV, den, dens, h]
  | false => simpa [okV] using h

theorem ents_spec {S : St} {mv : V} {m : Value} {es : List (V × V × Nat)} (hr : SRel P N S L) (hm : den N mv = some m) (h : entsOf S mv = some es) :
    (m = .map none ∧ es = []) ∨ ∃ b xs ck, m = .map (some b) ∧ (b, Obj.map (List.toArray xs) ck) ∈ L ∧ F2 (EntR N) es xs := by
  unfold entsOf at h
  split at h
  · rename_i j
    split at h
    · rename_i es' ck hkob
      simp only [Option.some.injEq] at h
      subst h
      obtain ⟨b, c, hj, rfl⟩ := den_mp hm
      obtain ⟨b', c', o', hj', hmem, ⟨xs, rfl, hF⟩, _⟩ := hr.atK hkob
      rw [hj] at hj'
      simp only [Option.some.injEq, Prod.mk.injEq] at hj'
      obtain ⟨rfl, rfl⟩ := hj'
      exact .inr ⟨b, xs, ck, rfl, hmem, hF⟩
    · cases h
  · simp only [Option.some.injEq] at h
    exact .inl ⟨den_lit hm, h.symm⟩
  · cases h

theorem getM_sound {S S' : St} {t : TypeId} {mv kv v : V} {m k : Value} {ok : Bool} (hr : SRel P N S L) (hm : den N mv = some m) (hk : den N kv = some k) (h : getM P t mv kv ok S = .val v S') :
    xwp P σ (Instr.lookup t m k ok) (fun x L => Wk (Post P N S' v x) L) L := by
  unfold getM at h
  obtain ⟨⟨kt, et⟩, hmt, h⟩ := bnd_val h
  obtain ⟨z, hz, h⟩ := bnd_val h
  obtain ⟨es, hes, h⟩ := bnd_val h
  split at h
  · rename_i hok
    obtain ⟨r, hfd, h⟩ := bnd_val h
    obtain ⟨kd, hu, hkd⟩ := keyOk_desc hok
    have fin : ∀ xs : List MapEntry, F2 (EntR N) es xs → xwp P σ (do
        Instr.checkKey xs.toArray.isEmpty 10000 kt k
        let (v, ok') ← match ← Instr.findKey kt k xs.toArray.toList with
          | some (_, v) => pure (v, true)
          | none => pure (← zeroValue et, false)
        pure (if ok then .tuple #[v, .bool ok'] else v)) (fun x L => Wk (Post P N S' v x) L) L := by
      intro xs hF
      obtain ⟨r', hfn, hR⟩ := findK_spec hu hok hk hF 0 hfd
      rw [xwp_bind]
      refine xwp_checkKey2 hu hkd ?_
      rw [xwp_bind]
      refine xwp_findKey2 hu hfn ?_
      cases r with
      | none =>
        cases r' with
        | some q => exact hR.elim
        | none =>
          simp only [OR.val.injEq] at h
          obtain ⟨rfl, rfl⟩ := h
          rw [xwp_bind, xwp_zeroValue_eq, hz]
          exact Wk.intro ⟨N, Ext.refl N, okV_spec (den_toV N z), hr⟩
      | some q =>
        cases r' with
        | none => exact hR.elim
        | some q' =>
          obtain ⟨i, w⟩ := q
          obtain ⟨i', u⟩ := q'
          obtain ⟨rfl, hwu, _⟩ := hR
          simp only [OR.val.injEq] at h
          obtain ⟨rfl, rfl⟩ := h
          exact Wk.intro ⟨N, Ext.refl N, okV_spec hwu, hr⟩
    unfold Instr.lookup
    rw [xwp_bind, xwp_underlying_eq, mapT_spec hmt]
    simp only
    rcases ents_spec hr hm hes with ⟨rfl, rfl⟩ | ⟨b, xs, ck, rfl, hmem, hF⟩
    · exact fin [] .nil
    · rw [xwp_bind]
      exact ⟨_, .inr hmem, trivial, fin xs hF⟩
  · cases h

theorem del_sound {S S' : St} {tys : Array TypeId} {t kt et : TypeId} {j : Nat} {kv v : V} {k : Value} {b c ck : Nat} {es : List (V × V × Nat)} {r : Option (Nat × V)} (hr : SRel P N S L) (ht : tys[0]? = some t) (hmt : mapT P t = some (kt, et)) (hj : N[j]? = some (b, c)) (hk : den N kv = some k)
    (hkob : kob S j = some (.map es ck)) (hok : keyOk P kt kv = true) (hfd : findK kv es 0 = some r)
    (h : (match r with | some (i, _) => OR.val (.tup []) (setObj S j (mkK (.map (delE i es) ck))) | none => .val (.tup []) (setObj S j (mkK (.map es ck)))) = .val v S') :
    xwp P σ (Builtin.delete_ tys ty #[.map (some b), k]) (fun x L => Wk (Post P N S' v x) L) L := by
  obtain ⟨kd, hu, hkd⟩ := keyOk_desc hok
  obtain ⟨b', c', o', hj', hmem, ⟨xs, rfl, hF⟩, hw, _⟩ := hr.atK hkob
  rw [hj] at hj'
  simp only [Option.some.injEq, Prod.mk.injEq] at hj'
  obtain ⟨rfl, rfl⟩ := hj'
  obtain ⟨r', hfn, hR⟩ := findK_spec hu hok hk hF 0 hfd
  unfold Builtin.delete_
  simp only [List.getElem?_toArray, List.getElem?_cons_zero, List.getElem?_cons_succ, ht]
  rw [xwp_bind, xwp_underlying_eq, mapT_spec hmt]
  simp only
  rw [xwp_bind]
  refine ⟨_, .inr hmem, trivial, ?_⟩
  refine (show xwp P σ (bind (Instr.checkKey _ 10000 kt k) _) _ L from ?_)
  rw [xwp_bind]
  refine xwp_checkKey2 hu hkd ?_
  rw [xwp_bind]
  refine xwp_findKey2 hu hfn ?_
  cases r with
  | none =>
    cases r' with
    | some q => exact hR.elim
    | none =>
      simp only [OR.val.injEq] at h
      obtain ⟨rfl, rfl⟩ := h
      obtain ⟨L', hrep, hsr⟩ := hw (.map es ck) (.map xs.toArray ck) ⟨_, rfl, hF⟩
      exact ⟨.map xs.toArray ck, L', hrep, trivial, Wk.intro ⟨N, Ext.refl N, by simp [den, dens], hsr⟩⟩
  | some q =>
    cases r' with
    | none => exact hR.elim
    | some q' =>
      obtain ⟨i, w⟩ := q
      obtain ⟨i', u⟩ := q'
      obtain ⟨rfl, hwu, _, e, he, _⟩ := hR
      simp only [OR.val.injEq] at h
      obtain ⟨rfl, rfl⟩ := h
      obtain ⟨L', hrep, hsr⟩ := hw (.map (delE i es) ck) (.map (xs.eraseIdx i).toArray ck) ⟨_, rfl, delE_rel hF i⟩
      refine ⟨.map xs.toArray ck, L', ?_, trivial, Wk.intro ⟨N, Ext.refl N, by simp [den, dens], hsr⟩⟩
      have e3 : xs.toArray.eraseIdxIfInBounds i = (xs.eraseIdx i).toArray := by
        apply Array.ext'
        simp
      rw [e3]
      exact hrep
end Go.E
