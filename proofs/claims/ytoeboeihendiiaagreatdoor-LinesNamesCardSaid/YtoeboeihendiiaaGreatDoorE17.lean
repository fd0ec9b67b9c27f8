import Derived.Test.YtoeboeihendiiaaGreatDoorE16
set_option linter.all false
namespace Go.E
open Go.X
attribute [local semireducible] Yl xop XL XD XF
variable {P : Program} {σ : Sig} {N : Nm} {E : T V} {ρ : X.Env} {L : Hp} {Z : Ex} {n : Fm} {ops : Array Oper} {K : X.Env → Hp → Prop} {rec : Job → St → Res} {Q : Exit → X.Env → Hp → Prop}

theorem F2.perm {α β : Type} {R : α → β → Prop} {m m' : List β} (hp : m.Perm m') : ∀ {l : List α}, F2 R l m → ∃ l', l.Perm l' ∧ F2 R l' m' := by
  induction hp with
  | nil => intro l h; exact ⟨l, List.Perm.refl _, h⟩
  | cons x _ ih =>
    intro l h
    cases h with
    | cons h t => obtain ⟨l', h1, h2⟩ := ih t; exact ⟨_ :: l', h1.cons _, .cons h h2⟩
  | swap x y m =>
    intro l h
    cases h with
    | cons h t => cases t with
      | cons h' t => exact ⟨_, List.Perm.swap _ _ _, .cons h' (.cons h t)⟩
  | trans _ _ ih1 ih2 =>
    intro l h
    obtain ⟨l1, h1, h2⟩ := ih1 h
    obtain ⟨l2, h3, h4⟩ := ih2 h2
    exact ⟨l2, h1.trans h3, h4⟩

theorem SRel.perm {S : St} {L L' : Hp} (h : SRel P N S L) (hp : L.Perm L') : SRel P N S L' := by
  obtain ⟨h1, l, h2, h3, h4⟩ := h
  obtain ⟨l', g1, g2⟩ := h4.perm hp
  exact ⟨h1, l', fun k o hk => g1.mem_iff.1 (h2 k o hk), (g1.map _).nodup_iff.1 h3, g2⟩

theorem putPs_sound (n : Nat) : ∀ (ps : List Tmp) (args : List V) {E : T V} (E0 : T V) {ρ : X.Env} {xs : List Value}, putPs ps args E = some E0 → (∀ p ∈ ps, p < n) → ERel N E ρ → dens N args = some xs →
    ∃ ρ0, xs.length = ps.length ∧ ERel N E0 ρ0 ∧ (ps.zip xs).foldl (fun t (q : Nat × Value) => t.setIfInBounds q.1 q.2) (actOf n [] ρ).tmps = (actOf n [] ρ0).tmps
  | [], [], E, E0, ρ, xs, h, _, he, hx => by
    simp only [putPs, Option.some.injEq] at h
    simp [dens] at hx
    subst h; subst hx
    exact ⟨ρ, rfl, he, rfl⟩
  | p :: ps, v :: vs, E, E0, ρ, xs, h, hp, he, hx => by
    unfold putPs at h
    unfold dens at hx
    split at hx
    · rename_i x ys h1 h2
      simp only [Option.some.injEq] at hx
      subst hx
      obtain ⟨ρ0, g1, g2, g3⟩ := putPs_sound n ps vs E0 h (fun q hq => hp q (List.mem_cons_of_mem _ hq)) (he.put (Ext.refl N) (d := some p) h1) h2
      refine ⟨ρ0, by simp [g1], g2, ?_⟩
      rw [← g3]
      simp only [List.zip_cons_cons, List.foldl_cons]
      congr 1
      have := actOf_put n [] ρ (some p) x
      simpa [Act.put] using congrArg Act.tmps this
    · cases hx
  | [], _ :: _, E, E0, ρ, xs, h, _, _, _ => by cases h
  | _ :: _, [], E, E0, ρ, xs, h, _, _, _ => by cases h

theorem step_sound (hm : P.follows .mixedOrders = true) (hz : ExOk P σ Z) (hrec : RecOk P σ rec) : RecOk P σ (step P Z rec) := by
  refine ⟨?_, ?_, ?_, ?_⟩
  · intro n rd c E S e E' S' h r hrd N ρ L he hr Q hQ
    simp only [step] at h
    split at h
    · -- skip
      simp only [Res.code.injEq] at h
      obtain ⟨rfl, rfl, rfl⟩ := h
      exact XF.skip (hQ N ρ L (Ext.refl N) he hr)
    · -- a region
      rename_i id ops draw
      split at h
      · cases h
      · rename_i hok
        split at h
        · have hall : ∀ o ∈ ops.toList, okOp n ops o = true := by
            intro o ho
            unfold opsOk at hok
            rw [Array.all_eq_true_iff_forall_mem] at hok
            exact hok o (by simpa using ho)
          have hn := evL_normal _ h
          subst hn
          obtain ⟨l, rfl⟩ : ∃ l : List Oper, ops = l.toArray := ⟨ops.toList, by simp⟩
          exact XF.region (evL_sound (n := ⟨n, r⟩) hz hrec l hall he hr h _ fun ρ' L' ⟨M, hM, a, b⟩ => hQ M ρ' L' hM a b)
        · split at h
          · rename_i p hp
            have hn := evD_normal _ _ _ _ h
            subst hn
            unfold planOf planTry at hp
            split at hp
            · rename_i hd
              simp only [Option.some.injEq] at hp
              subst hp
              exact XF.draw _ hm (drawF_ok hd) (evD_sound (n := ⟨n, r⟩) hz hrec hok _ [] [] [] [] [] he hr (fun i ob v h => by cases h) .nil h _ fun ρ' L' ⟨M, hM, a, b⟩ => hQ M ρ' L' hM a b)
            · cases hp
          · cases h
    · -- one behind the other
      rename_i a b
      split at h
      · rename_i E1 S1 h1
        refine XF.seq fun K hK => ?_
        refine hrec.code n rd a E S _ _ _ h1 r hrd N ρ L he hr _ fun M ρ' L' hM he' hr' => ?_
        exact hK _ _ (hrec.code n rd b E1 S1 _ _ _ h r hrd M ρ' L' he' hr' Q fun M2 ρ2 L2 hM2 a b => hQ M2 ρ2 L2 (hM.trans hM2) a b)
      · rename_i hne
        refine XF.seq fun K hK => ?_
        refine hrec.code n rd a E S _ _ _ h r hrd N ρ L he hr _ fun M ρ' L' hM he' hr' => ?_
        have hne' : e ≠ .normal := fun heq => by subst heq; exact hne _ _ h
        have := hQ M ρ' L' hM he' hr'
        cases e <;> first | exact this | exact absurd rfl hne'
    · -- a choice
      rename_i x a b
      split at h
      · rename_i hok hx
        have hb := den_bool (evV_den he hx)
        exact XF.cond hok hb (fun _ => hrec.code n rd a E S _ _ _ h r hrd N ρ L he hr Q hQ) (fun h => by cases h)
      · rename_i hok hx
        have hb := den_bool (evV_den he hx)
        exact XF.cond hok hb (fun h => by cases h) (fun _ => hrec.code n rd b E S _ _ _ h r hrd N ρ L he hr Q hQ)
      · cases h
    · -- a block
      rename_i id b
      split at h
      · rename_i i E1 S1 h1
        refine XF.block (hrec.code n rd b E S _ _ _ h1 r hrd N ρ L he hr _ fun M ρ' L' hM he' hr' => ?_)
        split at h
        · rename_i hi
          have hi := Nat.eq_of_beq_eq_true hi
          simp only [Res.code.injEq] at h
          obtain ⟨rfl, rfl, rfl⟩ := h
          simp only [inBlockF]
          rw [if_pos hi]
          exact hQ M ρ' L' hM he' hr'
        · rename_i hi
          have hi : i ≠ id := fun h => by subst h; simp at hi
          simp only [Res.code.injEq] at h
          obtain ⟨rfl, rfl, rfl⟩ := h
          simp only [inBlockF]
          rw [if_neg hi]
          exact hQ M ρ' L' hM he' hr'
      · rename_i hne
        refine XF.block (hrec.code n rd b E S _ _ _ h r hrd N ρ L he hr _ fun M ρ' L' hM he' hr' => ?_)
        have := hQ M ρ' L' hM he' hr'
        cases e with
        | exit i => exact absurd h (hne i _ _)
        | _ => exact this
    · -- a loop
      rename_i b
      obtain ⟨m, hm⟩ := hrec.rounds n rd b E S _ _ _ h
      refine XF.loop (fun k ρ L => Rnd P σ ⟨n, r⟩ b Q k ρ L) m (hm r hrd N ρ L he hr Q hQ) ?_
      intro k ρ' L' hk
      cases k with
      | zero => exact hk.elim
      | succ k =>
        refine XF.mono hk ?_
        intro e ρ'' L'' hq
        cases e with
        | normal => exact ⟨k, by omega, hq⟩
        | _ => exact hq
    · simp only [Res.code.injEq] at h
      obtain ⟨rfl, rfl, rfl⟩ := h
      exact XF.exit (hQ N ρ L (Ext.refl N) he hr)
    · simp only [Res.code.injEq] at h
      obtain ⟨rfl, rfl, rfl⟩ := h
      exact XF.ret (hQ N ρ L (Ext.refl N) he hr)
    · simp only [Res.code.injEq] at h
      obtain ⟨rfl, rfl, rfl⟩ := h
      exact XF.label (hQ N ρ L (Ext.refl N) he hr)
    · simp only [Res.code.injEq] at h
      obtain ⟨rfl, rfl, rfl⟩ := h
      exact XF.goto (hQ N ρ L (Ext.refl N) he hr)
    · -- a scope
      rename_i b
      split at h
      · cases h
      · rename_i hne
        refine XF.scope (hrec.code n rd b E S _ _ _ h r hrd N ρ L he hr _ fun M ρ' L' hM he' hr' => ?_)
        have := hQ M ρ' L' hM he' hr'
        cases e with
        | goto l => exact absurd h (hne l _ _)
        | _ => exact this
    · -- a range over a function
      rename_i g ps assign body
      split at h
      · rename_i gf lb hok hg
        split at h
        · rename_i hb
          obtain rfl : r = none := by cases r with | none => rfl | some x => simp at hrd
          split at h
          · rename_i v S2 hcall
            split at h
            · rename_i st pe n' E1 ps' as' bd' hkob
              obtain ⟨y, z, hy, hz', hx⟩ := den_fn (evV_den he hg)
              simp [dens] at hy
              subst hy
              refine XF.rangeFunc hok hx hb fun fn D l => ?_
              have hM : Ext N (N ++ [(l, 0)]) := Ext.app _ _
              have hk : (N ++ [(l, 0)])[S.nx]? = some (l, 0) := new_name hr l 0
              have hr1 : SRel P (N ++ [(l, 0)]) (newObj S (mkK (.loop .ready none n E ps assign body))) ((l, .loop { state := .ready, pending := none, fn := fn, tmps := (actOf n [] ρ).tmps, params := ps, assign := assign, body := body, defers := D }) :: L) :=
                hr.new (ORel.mk ⟨ρ, fn, D, he.mono hM, rfl⟩)
              have hargs : dens (N ++ [(l, 0)]) (.yld S.nx :: lb) = some ([Value.func (.yield l) #[] #[]] ++ z) := dens_append (l := [.yld S.nx]) (by simp [dens, mk_yld hk]) (dens_ext hM hz')
              have hsp := hrec.call gf _ _ v S2 hcall _ _ _ hargs hr1
              have ea : (#[.func (.yield l) #[] #[]] ++ z.toArray : Array Value) = ([Value.func (.yield l) #[] #[]] ++ z).toArray := by apply Array.ext'; simp
              rw [ea]
              refine Spec.mono hsp ?_
              rintro x L2 ⟨M, hM2, hd, hs⟩
              obtain ⟨b', c', o', hk', hmem, ⟨ρ2, fn2, D2, he2, rfl⟩, _, L3, hperm, hs3⟩ := hs.atK hkob
              rw [hM2 _ _ hk] at hk'
              simp only [Option.some.injEq, Prod.mk.injEq] at hk'
              obtain ⟨rfl, rfl⟩ := hk'
              refine ⟨_, L3, hperm.trans (List.perm_append_comm (l₂ := [(l, _)])), ?_, ?_⟩
              · intro hst
                simp only at hst
                subst hst
                cases h
              · simp only
                have h' : (match pe with | none => Res.code .normal E (dropK S2 S.nx) | some c => rec (.code n false c E) (dropK S2 S.nx)) = .code e E' S' := by
                  cases st <;> first | exact h | cases h
                cases pe with
                | none =>
                  simp only [Res.code.injEq] at h'
                  obtain ⟨rfl, rfl, rfl⟩ := h'
                  exact hQ M ρ L3 (hM.trans hM2) (he.mono (hM.trans hM2)) hs3
                | some c =>
                  exact hrec.code n false c E _ _ _ _ h' none rfl M ρ L3 (he.mono (hM.trans hM2)) hs3 Q fun M2 ρ3 L4 hM3 a b => hQ M2 ρ3 L4 ((hM.trans hM2).trans hM3) a b
            · cases h
          · cases h
          · cases h
        · cases h
      · cases h
    · cases h
  · intro n rd c E S e E' S' h
    simp only [step] at h
    split at h
    · rename_i E1 S1 h1
      obtain ⟨m, hm⟩ := hrec.rounds n rd c E1 S1 _ _ _ h
      refine ⟨m + 1, fun r hrd N ρ L he hr Q hQ => ?_⟩
      refine hrec.code n rd c E S _ _ _ h1 r hrd N ρ L he hr _ fun M ρ' L' hM he' hr' => ?_
      exact hm r hrd M ρ' L' he' hr' Q fun M2 ρ2 L2 hM2 a b => hQ M2 ρ2 L2 (hM.trans hM2) a b
    · rename_i hne
      refine ⟨1, fun r hrd N ρ L he hr Q hQ => ?_⟩
      refine hrec.code n rd c E S _ _ _ h r hrd N ρ L he hr _ fun M ρ' L' hM he' hr' => ?_
      have hne' : e ≠ .normal := fun heq => by subst heq; exact hne _ _ h
      have := hQ M ρ' L' hM he' hr'
      cases e <;> first | exact this | exact absurd rfl hne'
  · intro f args S v S' h N L xs hxs hr
    simp only [step] at h
    split at h
    · cases h
    · rename_i fn hfn
      split at h
      · cases h
      · rename_i c hc
        split at h
        · cases h
        · rename_i hle
          have hle := Nat.le_of_ble_eq_true hle
          have hlen := dens_len hxs
          refine spec_of hfn hc rfl (by simpa [hlen] using hle) ?_
          have fin : ∀ (E1 : T V) (S1 : St) (e : Exit), e = .normal ∨ e = .ret → rec (.code fn.ntmps false c (args0 args 0 .leaf)) S = .code e E1 S1 → retV P fn E1 S1 = .val v S' →
              XF P σ ⟨fn.ntmps, none⟩ c (post P σ fn.ntmps fn (Post P N S' v)) (argEnv xs.toArray) L := by
            intro E1 S1 e hex h1 h2
            refine hrec.code _ _ _ _ _ _ _ _ h1 none rfl N _ L (args_rel hxs) hr _ fun M ρ' L' hM he' hr' => ?_
            have := ret_sound (σ := σ) (n := fn.ntmps) he' hr' h2 (K := Post P N S' v) (fun x hd hs => ⟨M, hM, hd, hs⟩) rfl
            rcases hex with rfl | rfl <;> exact this
          split at h
          · rename_i E1 S1 h1
            exact fin E1 S1 _ (.inl rfl) h1 h
          · rename_i E1 S1 h1
            exact fin E1 S1 _ (.inr rfl) h1 h
          · cases h
          · cases h
  · intro k args S v S' h N L xs l c hxs hr hk
    simp only [step] at h
    split at h
    · rename_i pe n E ps assign body hkob
      split at h
      · rename_i E0 hps hput
        obtain ⟨b', c', o', hk', hmem, ⟨ρ, fn, D, he, rfl⟩, _⟩ := hr.atK hkob
        rw [hk] at hk'
        simp only [Option.some.injEq, Prod.mk.injEq] at hk'
        obtain ⟨rfl, rfl⟩ := hk'
        obtain ⟨ρ0, hlen, he0, htm⟩ := putPs_sound (N := N) n ps.toList args E0 hput (fun p hp => by rw [Array.all_eq_true_iff_forall_mem] at hps; exact Nat.le_of_ble_eq_true (hps p (by simpa using hp))) he hxs
        refine ⟨_, .inr hmem, by simpa using hlen, ?_⟩
        simp only
        have e1 : (ps.zip xs.toArray).foldl (fun t (p, v) => t.setIfInBounds p v) (actOf n [] ρ).tmps = (actOf n [] ρ0).tmps := by
          rw [← htm]
          simp only [← Array.foldl_toList, Array.toList_zip]
        rw [e1]
        split at h
        · rename_i E1 S1 h1
          split at h
          · rename_i pe1 n1 Ea ps1 as1 bd1 hk1
            split at h
            · rename_i e3 E3 S3 h3
              refine specR_of ?_
              refine hrec.code n true assign E0 S _ _ _ h1 (some l) rfl N ρ0 L he0 hr _ fun M ρ1 L1 hM he1 hr1 => ⟨rfl, ?_⟩
              obtain ⟨b1, c1, o1, hkk1, hmem1, ⟨ρa, fna, Da, hea, rfl⟩, hw1, _⟩ := hr1.atK hk1
              rw [hM _ _ hk] at hkk1
              simp only [Option.some.injEq, Prod.mk.injEq] at hkk1
              obtain ⟨rfl, rfl⟩ := hkk1
              obtain ⟨L1', ⟨A, B, hA, hB⟩, hr1'⟩ := hw1 (.loop .busy pe1 n1 Ea ps1 as1 bd1) (.loop { state := .busy, pending := pe1, fn := fna, tmps := (actOf n1 [] ρa).tmps, params := ps1, assign := as1, body := bd1, defers := Da }) ⟨ρa, fna, Da, hea, rfl⟩
              refine ⟨_, A ++ B, by rw [hA]; exact List.perm_middle, rfl, ?_⟩
              simp only
              refine XF.wk [] (L' := L1') (by rw [hB, List.append_nil]; exact List.perm_middle.symm) ?_
              refine hrec.code n true body E1 _ _ _ _ h3 (some l) rfl M ρ1 L1' he1 hr1' _ fun M3 ρ3 L3 hM3 he3 hr3 => ?_
              split at h
              · rename_i st3 pe3 n3 Eb ps3 as3 bd3 hk3
                obtain ⟨b3, c3, o3, hkk3, hmem3, ⟨ρb, fnb, Db, heb, rfl⟩, hw3, _⟩ := hr3.atK hk3
                rw [hM3 _ _ (hM _ _ hk)] at hkk3
                simp only [Option.some.injEq, Prod.mk.injEq] at hkk3
                obtain ⟨rfl, rfl⟩ := hkk3
                have fin : ∀ (st : LoopState) (pj : Option Code) (vb : Bool), (Res.val (.bool vb) (setObj S3 k (mkK (.loop st pj n3 Eb ps3 as3 bd3))) = Res.val v S') →
                    ∃ rec L0, L3.Perm ((l, .loop rec) :: L0) ∧ Post P N S' v (.bool vb) ((l, .loop { rec with state := st, pending := pj }) :: L0) := by
                  intro st pj vb hv
                  simp only [Res.val.injEq] at hv
                  obtain ⟨rfl, rfl⟩ := hv
                  obtain ⟨L4, ⟨A3, B3, hA3, hB3⟩, hr4⟩ := hw3 (.loop st pj n3 Eb ps3 as3 bd3) (.loop { state := st, pending := pj, fn := fnb, tmps := (actOf n3 [] ρb).tmps, params := ps3, assign := as3, body := bd3, defers := Db }) ⟨ρb, fnb, Db, heb, rfl⟩
                  refine ⟨_, A3 ++ B3, by rw [hA3]; exact List.perm_middle, M3, hM.trans hM3, rfl, hr4.perm ?_⟩
                  rw [hB3]
                  exact List.perm_middle
                cases e3 with
                | normal => exact fin _ _ _ h
                | ret => exact fin _ _ _ h
                | exit id => exact fin _ _ _ h
                | goto t => exact fin _ _ _ h
                | panic c => cases h
                | outgrown => cases h
              · cases h
            · cases h
            · cases h
          · cases h
        · cases h
        · cases h
      · cases h
    · cases h

theorem ev_sound (hm : P.follows .mixedOrders = true) (hz : ExOk P σ Z) : ∀ k, RecOk P σ (ev P Z k)
  | 0 => ⟨fun _ _ _ _ _ _ _ _ h => (by cases h), fun _ _ _ _ _ _ _ _ h => (by cases h), fun _ _ _ _ _ h => (by cases h), fun _ _ _ _ _ h => (by cases h)⟩
  | k + 1 => step_sound hm hz (ev_sound hm hz k)

/-- a call of which the evaluator tells the result: from nothing that is owned -/
theorem run_sound (hm : P.follows .mixedOrders = true) (hz : ExOk P σ Z) {k : Nat} {f : FuncId} {r : Value} {v : V} {S : St} (h : ev P Z k (.call f []) ⟨.leaf, 0⟩ = .val v S) (hv : ofV v = some r) :
    X.Spec P σ f #[] (fun x _ => x = r) [] := by
  have := (ev_sound (σ := σ) hm hz k).call f [] ⟨.leaf, 0⟩ v S h [] [] [] rfl ⟨rfl, [], fun k o h => by simp [T.get_leaf] at h, by simp, .nil⟩
  exact this.mono fun x L ⟨M, hM, hd, hs⟩ => (ofV_eq hv hd).symm

/-- the same, with arguments that have no names -/
theorem run_args (hm : P.follows .mixedOrders = true) (hz : ExOk P σ Z) {k : Nat} {f : FuncId} {args : List V} {xs : List Value} {r : Value} {v : V} {S : St} (h : ev P Z k (.call f args) ⟨.leaf, 0⟩ = .val v S) (ha : dens [] args = some xs) (hv : den [] v = some r) :
    X.Spec P σ f xs.toArray (fun x _ => x = r) [] := by
  have := (ev_sound (σ := σ) hm hz k).call f args ⟨.leaf, 0⟩ v S h [] [] xs ha ⟨rfl, [], fun k o h => by simp [T.get_leaf] at h, by simp, .nil⟩
  exact this.mono fun x L ⟨M, hM, hd, hs⟩ => by
    have hd : den M v = some x := hd
    rw [den_mono (fun k p hp => by simp at hp) v r hv] at hd
    exact (Option.some.inj hd).symm

/-- what a run comes to, where it has no names -/
def resOf : Res → Option V
  | .val v _ => some v
  | _ => none

theorem run_res (hm : P.follows .mixedOrders = true) (hz : ExOk P σ Z) {k : Nat} {f : FuncId} {args : List V} {xs : List Value} {r : Value} {v : V} (h : resOf (ev P Z k (.call f args) ⟨.leaf, 0⟩) = some v) (ha : dens [] args = some xs) (hv : den [] v = some r) :
    X.Spec P σ f xs.toArray (fun x _ => x = r) [] := by
  unfold resOf at h
  split at h
  · rename_i w S hw
    simp only [Option.some.injEq] at h
    subst h
    exact run_args hm hz hw ha hv
  · cases h
end Go.E
