import Derived.Test.YtoeboeihendiiaaGreatDoorE15
import Derived.Scope
set_option linter.all false
namespace Go.E
open Go.X
attribute [local semireducible] Yl xop XL XD XF
variable {P : Program} {σ : Sig} {N : Nm} {E : T V} {ρ : X.Env} {L : Hp} {Z : Ex} {n : Fm} {ops : Array Oper} {K : X.Env → Hp → Prop} {rec : Job → St → Res} {Q : Exit → X.Env → Hp → Prop}

theorem stepR_scope {b : Frame} {a : Act} {k : List Item} {cs : List Frame} {w : World} {c : Code} : Go.step P (lone (b.atR a (.code (.scope c) :: k)) cs w) = .next (lone (b.atR a (.code c :: .inScope c :: k)) cs w) :=
  step_lone_go (by simp [stepG, stepG.exec, Frame.atR])
theorem stepR_inScope {b : Frame} {a : Act} {k : List Item} {cs : List Frame} {w : World} {c : Code} : Go.step P (lone (b.atR a (.inScope c :: k)) cs w) = .next (lone (b.atR a k) cs w) :=
  step_lone_go (by simp [stepG, stepG.exec, Frame.atR])

theorem XC.scope {r : Option Nat} {c : Code} {a : Act} {Q : Exit → Act → Hp → Prop} (h : XC P σ r c (fun e a L => match e with | .goto _ => False | e => Q e a L) a L) : XC P σ r (.scope c) Q a L := by
  intro w F ho b k cs hro hb hr
  have h0 : (lone (b.atR a (.code (.scope c) :: k)) cs w).fenced P (Fx r) := fenced_calm hb hr rfl
  obtain ⟨e, a₁, w₁, ⟨L1, hq, ho1⟩, harr⟩ := h w F ho b (.inScope c :: k) cs hro hb hr
  cases e with
  | normal => exact ⟨.normal, a₁, w₁, ⟨L1, hq, ho1⟩, .head h0 stepR_scope (StepsIn.trans harr (.one (fenced_calm hb hr rfl) stepR_inScope))⟩
  | exit id =>
    have hx : exitTo id (.inScope c :: k) = exitTo id k := by simp [exitTo]
    exact ⟨.exit id, a₁, w₁, ⟨L1, hq, ho1⟩, fun k' hk => .head h0 stepR_scope (harr.1 k' (by rw [hx]; exact hk)),
      fun hr' hk => let ⟨k₁, h1, h2⟩ := harr.2 hr' (by rw [hx]; exact hk); ⟨k₁, h1, .head h0 stepR_scope h2⟩⟩
  | goto l => exact hq.elim
  | ret => exact ⟨_, a₁, w₁, ⟨L1, hq, ho1⟩, .of_steps (.one h0 stepR_scope) harr⟩
  | panic ch => exact ⟨_, a₁, w₁, ⟨L1, hq, ho1⟩, .of_steps (.one h0 stepR_scope) harr⟩
  | outgrown => exact ⟨_, a₁, w₁, ⟨L1, hq, ho1⟩, .of_steps (.one h0 stepR_scope) harr⟩

theorem XF.scope {c : Code} (h : XF P σ n c (fun e ρ L => match e with | .goto _ => False | e => Q e ρ L) ρ L) : XF P σ n (.scope c) Q ρ L := by
  intro D
  refine XC.scope (XC.mono (h D) ?_)
  rintro e a L ⟨ρ', D', L0, rfl, rfl, hq⟩
  cases e <;> first | exact hq.elim | exact ⟨ρ', D', L0, rfl, rfl, hq⟩

theorem args0_get : ∀ (l : List V) (i : Nat) (t : T V) (m : Nat), (args0 l i t).get m = if i ≤ m ∧ m < i + l.length then l[m - i]? else t.get m
  | [], i, t, m => by simp [args0]; omega
  | v :: l, i, t, m => by
    rw [args0, args0_get l, T.get_set]
    simp only [List.length_cons]
    by_cases h1 : i + 1 ≤ m ∧ m < i + 1 + l.length
    · rw [if_pos h1, if_pos (by omega)]
      obtain ⟨k, rfl⟩ : ∃ k, m = i + 1 + k := ⟨m - (i + 1), by omega⟩
      rw [show i + 1 + k - (i + 1) = k from by omega, show i + 1 + k - i = k + 1 from by omega]
      simp
    · rw [if_neg h1]
      by_cases h2 : m = i
      · subst h2
        rw [if_pos rfl, if_pos (by omega)]
        simp
      · rw [if_neg h2, if_neg (by omega)]

theorem args_rel {l : List V} {xs : List Value} (h : dens N l = some xs) : ERel N (args0 l 0 .leaf) (argEnv xs.toArray) := by
  intro t v hv
  rw [args0_get] at hv
  split at hv
  · simp only [Nat.sub_zero] at hv
    obtain ⟨x, hx, hd⟩ := dens_get h hv
    rw [hd]
    simp [argEnv, hx]
  · simp [T.get_leaf] at hv

theorem resV_sound {n : Nat} {S : St} (he : ERel N E ρ) (hr : SRel P N S L) {r : ResultVar} {v : V} (h : resV P n E S r = some v) : ∃ x, den N v = some x ∧ resOk P σ n ρ L r x := by
  unfold resV at h
  split at h
  · rename_i t
    split at h
    · rename_i ht
      exact ⟨_, he t v h, Nat.le_of_ble_eq_true ht, rfl⟩
    · cases h
  · rename_i a t
    split at h
    · rename_i k off ha hE
      obtain ⟨b, c, hk, hx⟩ := den_ptr (he a _ hE)
      obtain ⟨x, hd, h1 | ⟨h1, m, vs, h2, h3, rfl⟩⟩ := loadV_rd (σ := σ) hr h hk
      · exact ⟨x, hd, Nat.le_of_ble_eq_true ha, _, hx, .inl h1⟩
      · exact ⟨_, hd, Nat.le_of_ble_eq_true ha, _, hx, .inr ⟨h1, m, vs, h2, h3, rfl⟩⟩
    · cases h

theorem ret_sound {n : Nat} {fn : Func} {S S' : St} (he : ERel N E ρ) (hr : SRel P N S L) {v : V} (h : retV P fn E S = .val v S') {K : Value → Hp → Prop} (hK : ∀ x, den N v = some x → SRel P N S' L → K x L) (hn : fn.ntmps = n) :
    ∃ x, xq P σ (results fn (actOf n [] ρ).tmps) (fun u => u = x) L ∧ Wk (K x) L := by
  unfold retV at h
  subst hn
  have key : ∀ l, optMap (resV P fn.ntmps E S) fn.results.toList = some l → ∃ xs, dens N l = some xs ∧ xs.length = fn.results.size ∧
      ∀ (i : Nat) r x, fn.results.toList[i]? = some r → xs[i]? = some x → resOk P σ fn.ntmps ρ L r x := by
    intro l hl
    obtain ⟨h1, h2⟩ := optMap_spec.1 hl
    have : ∀ (rs : List ResultVar) (l : List V), optMap (resV P fn.ntmps E S) rs = some l → ∃ xs, dens N l = some xs ∧ xs.length = rs.length ∧ ∀ (i : Nat) r x, rs[i]? = some r → xs[i]? = some x → resOk P σ fn.ntmps ρ L r x := by
      intro rs
      induction rs with
      | nil => intro l h; simp [optMap] at h; subst h; exact ⟨[], rfl, rfl, fun i r x h => by simp at h⟩
      | cons r rs ih =>
        intro l h
        unfold optMap at h
        split at h
        · cases h
        · rename_i b hb
          split at h
          · cases h
          · rename_i m hm
            simp only [Option.some.injEq] at h
            subst h
            obtain ⟨xs, hxs, hlen, hres⟩ := ih m hm
            obtain ⟨x, hd, hok⟩ := resV_sound (σ := σ) he hr hb
            refine ⟨x :: xs, by simp [dens, hd, hxs], by simp [hlen], fun i r' x' h1 h2 => ?_⟩
            cases i with
            | zero => simp at h1 h2; subst h1; subst h2; exact hok
            | succ i => exact hres i r' x' (by simpa using h1) (by simpa using h2)
    obtain ⟨xs, a, b, c⟩ := this _ _ hl
    exact ⟨xs, a, by simpa using b, c⟩
  split at h
  · rename_i w hw
    simp only [Res.val.injEq] at h
    obtain ⟨rfl, rfl⟩ := h
    obtain ⟨xs, hxs, hlen, hres⟩ := key _ hw
    have hl := dens_len hxs
    simp only [List.length_cons, List.length_nil] at hl
    obtain ⟨x, rfl⟩ : ∃ x, xs = [x] := List.length_eq_one_iff.1 hl
    unfold dens at hxs
    have hd : den N w = some x := by
      split at hxs
      · rename_i x' y' h1 h2
        simp [dens] at h2
        subst h2
        simp only [Option.some.injEq, List.cons.injEq] at hxs
        rw [h1, hxs.1]
      · cases hxs
    refine ⟨x, resAll (rs := fn.results.toList) (vs := [x]) (by simp) (by simpa using hlen.symm) hres rfl, Wk.intro (hK x hd hr)⟩
  · rename_i l hne hl
    simp only [Res.val.injEq] at h
    obtain ⟨rfl, rfl⟩ := h
    obtain ⟨xs, hxs, hlen, hres⟩ := key _ hl
    have hl := dens_len hxs
    have h1 : ¬ (xs.toArray.size = 1) := by
      intro h1
      simp at h1
      rw [h1] at hl
      obtain ⟨y, hy⟩ := List.length_eq_one_iff.1 hl.symm
      exact hne y hy
    refine ⟨.tuple xs.toArray, resAll (rs := fn.results.toList) (vs := xs) (by simp) (by simpa using hlen.symm) hres (by rw [dif_neg h1]), Wk.intro (hK _ (mk_tup hxs) hr)⟩
  · cases h
end Go.E
