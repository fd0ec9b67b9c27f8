import Derived.Test.YtfmpeioigfpocaaGreatDoorE16
set_option linter.all false
namespace Go.E
open Go.X
attribute [local semireducible] Yl xop XL XD XF
variable {P : Program} {σ : Sig} {N : Nm} {E : T V} {ρ : X.Env} {L : Hp} {Z : Ex} {n : Nat} {ops : Array Oper} {K : X.Env → Hp → Prop} {rec : Job → St → Res} {Q : Exit → X.Env → Hp → Prop}

theorem step_sound (hm : P.follows .mixedOrders = true) (hz : ExOk P Z) (hrec : RecOk P σ rec) : RecOk P σ (step P Z rec) := by
  refine ⟨?_, ?_, ?_⟩
  · intro n c E S e E' S' h N ρ L he hr Q hQ
    simp only [step] at h
    split at h
    · -- skip
      simp only [Res.code.injEq] at h
      obtain ⟨rfl, rfl, rfl⟩ := h
      exact XF.skip (hQ N ρ L (Ext.refl N) he hr)
    · -- a region
      rename_i id ops draw
      split at h
      · cases h
      · rename_i hok
        split at h
        · have hall : ∀ o ∈ ops.toList, okOp n ops o = true := by
            intro o ho
            unfold opsOk at hok
            rw [Array.all_eq_true_iff_forall_mem] at hok
            exact hok o (by simpa using ho)
          have hn := evL_normal _ h
          subst hn
          obtain ⟨l, rfl⟩ : ∃ l : List Oper, ops = l.toArray := ⟨ops.toList, by simp⟩
          exact XF.region (evL_sound hz hrec l hall he hr h _ fun ρ' L' ⟨M, hM, a, b⟩ => hQ M ρ' L' hM a b)
        · split at h
          · rename_i p hp
            have hn := evD_normal _ _ _ h
            subst hn
            unfold planOf at hp
            split at hp
            · rename_i hd
              simp only [Option.some.injEq] at hp
              subst hp
              exact XF.draw _ hm hd (evD_sound hz hrec hok _ [] [] [] he hr .nil h _ fun ρ' L' ⟨M, hM, a, b⟩ => hQ M ρ' L' hM a b)
            · cases hp
          · cases h
    · -- one behind the other
      rename_i a b
      split at h
      · rename_i E1 S1 h1
        refine XF.seq fun K hK => ?_
        refine hrec.code n a E S _ _ _ h1 N ρ L he hr _ fun M ρ' L' hM he' hr' => ?_
        exact hK _ _ (hrec.code n b E1 S1 _ _ _ h M ρ' L' he' hr' Q fun M2 ρ2 L2 hM2 a b => hQ M2 ρ2 L2 (hM.trans hM2) a b)
      · rename_i hne
        refine XF.seq fun K hK => ?_
        refine hrec.code n a E S _ _ _ h N ρ L he hr _ fun M ρ' L' hM he' hr' => ?_
        have hne' : e ≠ .normal := fun heq => by subst heq; exact hne _ _ h
        have := hQ M ρ' L' hM he' hr'
        cases e <;> first | exact this | exact absurd rfl hne'
    · -- a choice
      rename_i x a b
      split at h
      · rename_i hok hx
        have hb := den_bool (evV_den he hx)
        exact XF.cond hok hb (fun _ => hrec.code n a E S _ _ _ h N ρ L he hr Q hQ) (fun h => by cases h)
      · rename_i hok hx
        have hb := den_bool (evV_den he hx)
        exact XF.cond hok hb (fun h => by cases h) (fun _ => hrec.code n b E S _ _ _ h N ρ L he hr Q hQ)
      · cases h
    · -- a block
      rename_i id b
      split at h
      · rename_i i E1 S1 h1
        refine XF.block (hrec.code n b E S _ _ _ h1 N ρ L he hr _ fun M ρ' L' hM he' hr' => ?_)
        split at h
        · rename_i hi
          have hi := Nat.eq_of_beq_eq_true hi
          simp only [Res.code.injEq] at h
          obtain ⟨rfl, rfl, rfl⟩ := h
          simp only [inBlockF]
          rw [if_pos hi]
          exact hQ M ρ' L' hM he' hr'
        · rename_i hi
          have hi : i ≠ id := fun h => by subst h; simp at hi
          simp only [Res.code.injEq] at h
          obtain ⟨rfl, rfl, rfl⟩ := h
          simp only [inBlockF]
          rw [if_neg hi]
          exact hQ M ρ' L' hM he' hr'
      · rename_i hne
        refine XF.block (hrec.code n b E S _ _ _ h N ρ L he hr _ fun M ρ' L' hM he' hr' => ?_)
        have := hQ M ρ' L' hM he' hr'
        cases e with
        | exit i => exact absurd h (hne i _ _)
        | _ => exact this
    · -- a loop
      rename_i b
      obtain ⟨m, hm⟩ := hrec.rounds n b E S _ _ _ h
      refine XF.loop (fun k ρ L => Rnd P σ n b Q k ρ L) m (hm N ρ L he hr Q hQ) ?_
      intro k ρ' L' hk
      cases k with
      | zero => exact hk.elim
      | succ k =>
        refine XF.mono hk ?_
        intro e ρ'' L'' hq
        cases e with
        | normal => exact ⟨k, by omega, hq⟩
        | _ => exact hq
    · simp only [Res.code.injEq] at h
      obtain ⟨rfl, rfl, rfl⟩ := h
      exact XF.exit (hQ N ρ L (Ext.refl N) he hr)
    · simp only [Res.code.injEq] at h
      obtain ⟨rfl, rfl, rfl⟩ := h
      exact XF.ret (hQ N ρ L (Ext.refl N) he hr)
    · simp only [Res.code.injEq] at h
      obtain ⟨rfl, rfl, rfl⟩ := h
      exact XF.label (hQ N ρ L (Ext.refl N) he hr)
    · simp only [Res.code.injEq] at h
      obtain ⟨rfl, rfl, rfl⟩ := h
      exact XF.goto (hQ N ρ L (Ext.refl N) he hr)
    · -- a scope
      rename_i b
      split at h
      · cases h
      · rename_i hne
        refine XF.scope (hrec.code n b E S _ _ _ h N ρ L he hr _ fun M ρ' L' hM he' hr' => ?_)
        have := hQ M ρ' L' hM he' hr'
        cases e with
        | goto l => exact absurd h (hne l _ _)
        | _ => exact this
    · cases h
  · intro n c E S e E' S' h
    simp only [step] at h
    split at h
    · rename_i E1 S1 h1
      obtain ⟨m, hm⟩ := hrec.rounds n c E1 S1 _ _ _ h
      refine ⟨m + 1, fun N ρ L he hr Q hQ => ?_⟩
      refine hrec.code n c E S _ _ _ h1 N ρ L he hr _ fun M ρ' L' hM he' hr' => ?_
      exact hm M ρ' L' he' hr' Q fun M2 ρ2 L2 hM2 a b => hQ M2 ρ2 L2 (hM.trans hM2) a b
    · rename_i hne
      refine ⟨1, fun N ρ L he hr Q hQ => ?_⟩
      refine hrec.code n c E S _ _ _ h N ρ L he hr _ fun M ρ' L' hM he' hr' => ?_
      have hne' : e ≠ .normal := fun heq => by subst heq; exact hne _ _ h
      have := hQ M ρ' L' hM he' hr'
      cases e <;> first | exact this | exact absurd rfl hne'
  · intro f args S v S' h N L xs hxs hr
    simp only [step] at h
    split at h
    · cases h
    · rename_i fn hfn
      split at h
      · cases h
      · rename_i c hc
        split at h
        · cases h
        · rename_i hle
          have hle := Nat.le_of_ble_eq_true hle
          have hlen := dens_len hxs
          refine spec_of hfn hc rfl (by simpa [hlen] using hle) ?_
          have fin : ∀ (E1 : T V) (S1 : St) (e : Exit), e = .normal ∨ e = .ret → rec (.code fn.ntmps c (args0 args 0 .leaf)) S = .code e E1 S1 → retV P fn E1 S1 = .val v S' →
              XF P σ fn.ntmps c (post P σ fn.ntmps fn (Post P N S' v)) (argEnv xs.toArray) L := by
            intro E1 S1 e hex h1 h2
            refine hrec.code _ _ _ _ _ _ _ h1 N _ L (args_rel hxs) hr _ fun M ρ' L' hM he' hr' => ?_
            have := ret_sound (σ := σ) (n := fn.ntmps) he' hr' h2 (K := Post P N S' v) (fun x hd hs => ⟨M, hM, hd, hs⟩) rfl
            rcases hex with rfl | rfl <;> exact this
          split at h
          · rename_i E1 S1 h1
            exact fin E1 S1 _ (.inl rfl) h1 h
          · rename_i E1 S1 h1
            exact fin E1 S1 _ (.inr rfl) h1 h
          · cases h
          · cases h

theorem ev_sound (hm : P.follows .mixedOrders = true) (hz : ExOk P Z) : ∀ k, RecOk P σ (ev P Z k)
  | 0 => ⟨fun _ _ _ _ _ _ _ h => (by cases h), fun _ _ _ _ _ _ _ h => (by cases h), fun _ _ _ _ _ h => (by cases h)⟩
  | k + 1 => step_sound hm hz (ev_sound hm hz k)

/-- a call of which the evaluator tells the result: from nothing that is owned -/
theorem run_sound (hm : P.follows .mixedOrders = true) (hz : ExOk P Z) {k : Nat} {f : FuncId} {r : Value} {v : V} {S : St} (h : ev P Z k (.call f []) ⟨.leaf, 0⟩ = .val v S) (hv : ofV v = some r) :
    X.Spec P σ f #[] (fun x _ => x = r) [] := by
  have := (ev_sound (σ := σ) hm hz k).call f [] ⟨.leaf, 0⟩ v S h [] [] [] rfl ⟨rfl, [], fun k o h => by simp [T.get_leaf] at h, by simp, .nil⟩
  exact this.mono fun x L ⟨M, hM, hd, hs⟩ => (ofV_eq hv hd).symm
end Go.E
