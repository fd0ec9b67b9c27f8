import Derived.Test.YtoeboeihendiiaaGreatDoorE7
set_option linter.all false
namespace Go.E
open Go.X
variable {P : Program} {σ : Sig} {N : Nm} {E : T V} {ρ : X.Env} {L : Hp} {Z : Ex}
theorem insAll_get : ∀ {os : List (Nat × O)} {h : T (Option O)} {k : Nat} {o : O}, (insAll os h).get k = some (some o) → (k, o) ∈ os ∨ h.get k = some (some o)
  | [], _, _, _, hk => .inr hk
  | (j, x) :: os, h, k, o, hk => by
    simp only [insAll, T.get_set] at hk
    split at hk
    · rename_i he
      simp only [Option.some.injEq] at hk
      subst hk
      subst he
      exact .inl (by simp)
    · rcases insAll_get hk with hk | hk
      · exact .inl (List.mem_cons_of_mem _ hk)
      · exact .inr hk

theorem obj_get {S : St} {k : Nat} {o : O} (h : obj S k = some o) : S.h.get k = some (some o) ∧ o.k = none := by
  unfold obj at h
  split at h
  · rename_i o' ho
    split at h
    · rename_i hk
      simp only [Option.some.injEq] at h
      subst h
      exact ⟨ho, hk⟩
    · cases h
  · cases h

theorem kob_get {S : St} {k : Nat} {q : K} (h : kob S k = some q) : ∃ o, S.h.get k = some (some o) ∧ o.k = some q := by
  unfold kob at h
  split at h
  · rename_i o' ho; exact ⟨o', ho, h⟩
  · cases h

theorem getElem_last (b c : Nat) : (N ++ [(b, c)])[N.length]? = some (b, c) := by simp

/-- a block that is looked at or changed -/
theorem SRel.atG {S : St} (h : SRel P N S L) {k : Nat} {o : O} (ho : S.h.get k = some (some o)) :
    ∃ b c o', N[k]? = some (b, c) ∧ (b, o') ∈ L ∧ ORel P N c o o' ∧
      (∀ o1 o1', ORel P N c o1 o1' → ∃ L', Rep L b o' o1' L' ∧ SRel P N (setObj S k o1) L') ∧
      (∀ o1 o1', ORel P (N ++ [(b, c)]) c o1 o1' → ∃ L', Rep L b o' o1' L' ∧ SRel P (N ++ [(b, c)]) (swapObj S k o1) L') ∧
      (∃ L2, L.Perm (L2 ++ [(b, o')]) ∧ ∀ b1 c1 o1 o1', ORel P (N ++ [(b1, c1)]) c1 o1 o1' → SRel P (N ++ [(b1, c1)]) (swapObj S k o1) ((b1, o1') :: L2)) ∧
      (∃ L2, L.Perm (L2 ++ [(b, o')]) ∧ SRel P N (dropK S k) L2) := by
  obtain ⟨hn, l, hl, hd, hf⟩ := h
  obtain ⟨l1, l2, m1, ⟨b, o'⟩, m2, rfl, rfl, ⟨c, hk, hr⟩, hf1, hf2⟩ := hf.cut (hl k o ho)
  have hd' := hd
  simp only [List.map_append, List.map_cons, List.nodup_append, List.nodup_cons] at hd
  obtain ⟨hd1, ⟨hd2, hd3⟩, hd4⟩ := hd
  have nk : ∀ j x, (j, x) ∈ l1 ++ l2 → j ≠ k := by
    intro j x hm he
    subst he
    rcases List.mem_append.1 hm with hm | hm
    · exact hd4 j (List.mem_map.2 ⟨_, hm, rfl⟩) j (by simp) rfl
    · exact hd2 (List.mem_map.2 ⟨_, hm, rfl⟩)
  have other : ∀ j x, S.h.get j = some (some x) → j ≠ k → (j, x) ∈ l1 ∨ (j, x) ∈ l2 := by
    intro j x hj hne
    have := hl j x hj
    simp only [List.mem_append, List.mem_cons, Prod.mk.injEq] at this
    rcases this with h | ⟨h, _⟩ | h
    · exact .inl h
    · exact absurd h hne
    · exact .inr h
  have old : ∀ p ∈ l1 ++ l2, p.1 < N.length := by
    intro p hp
    rcases List.mem_append.1 hp with hp | hp
    · obtain ⟨q, c, hc, _⟩ := hf1.left hp; exact (List.getElem?_eq_some_iff.1 hc).1
    · obtain ⟨q, c, hc, _⟩ := hf2.left hp; exact (List.getElem?_eq_some_iff.1 hc).1
  refine ⟨b, c, o', hk, by simp, hr, ?_, ?_, ?_, ?_⟩
  · intro o1 o1' h1
    refine ⟨m1 ++ (b, o1') :: m2, ⟨m1, m2, rfl, rfl⟩, hn, l1 ++ (k, o1) :: l2, ?_, by simpa using hd', hf1.app (.cons ⟨c, hk, h1⟩ hf2)⟩
    intro j x hj
    simp only [setObj, T.get_set] at hj
    simp only [List.mem_append, List.mem_cons, Prod.mk.injEq]
    split at hj
    · rename_i he
      simp only [Option.some.injEq] at hj
      exact .inr (.inl ⟨he, hj.symm⟩)
    · rename_i he
      rcases other j x hj he with h | h
      · exact .inl h
      · exact .inr (.inr h)
  · intro o1 o1' h1
    have hx : Ext N (N ++ [(b, c)]) := Ext.app _ _
    refine ⟨m1 ++ (b, o1') :: m2, ⟨m1, m2, rfl, rfl⟩, by simp [swapObj, hn], l1 ++ (S.nx, o1) :: l2, ?_, ?_, (hf1.imp fun _ _ h => h.mono hx).app (.cons ⟨c, by rw [← hn]; exact getElem_last b c, h1⟩ (hf2.imp fun _ _ h => h.mono hx))⟩
    · intro j x hj
      simp only [swapObj, T.get_set] at hj
      simp only [List.mem_append, List.mem_cons, Prod.mk.injEq]
      split at hj
      · rename_i he
        simp only [Option.some.injEq] at hj
        exact .inr (.inl ⟨he, hj.symm⟩)
      · split at hj
        · simp at hj
        · rename_i he
          rcases other j x hj he with h | h
          · exact .inl h
          · exact .inr (.inr h)
    · simp only [List.map_append, List.map_cons, List.nodup_append, List.nodup_cons]
      refine ⟨hd1, ⟨fun hm => ?_, hd3⟩, ?_⟩
      · obtain ⟨p, hp, he⟩ := List.mem_map.1 hm
        have := old p (List.mem_append_right _ hp)
        omega
      · intro a ha d hd
        rcases List.mem_cons.1 hd with rfl | hd
        · obtain ⟨p, hp, he⟩ := List.mem_map.1 ha
          have := old p (List.mem_append_left _ hp)
          omega
        · exact hd4 a ha d (List.mem_cons_of_mem _ hd)
  · refine ⟨m1 ++ m2, ?_, ?_⟩
    · refine (List.perm_append_comm_assoc m1 [(b, o')] m2).trans ?_
      exact List.perm_append_comm (l₁ := [(b, o')])
    · intro b1 c1 o1 o1' h1
      have hx : Ext N (N ++ [(b1, c1)]) := Ext.app _ _
      refine ⟨by simp [swapObj, hn], (S.nx, o1) :: (l1 ++ l2), ?_, ?_, .cons ⟨c1, by rw [← hn]; exact getElem_last b1 c1, h1⟩ ((hf1.imp fun _ _ h => h.mono hx).app (hf2.imp fun _ _ h => h.mono hx))⟩
      · intro j x hj
        simp only [swapObj, T.get_set] at hj
        simp only [List.mem_append, List.mem_cons, Prod.mk.injEq]
        split at hj
        · rename_i he
          simp only [Option.some.injEq] at hj
          exact .inl ⟨he, hj.symm⟩
        · split at hj
          · simp at hj
          · rename_i he
            exact .inr (other j x hj he)
      · simp only [List.map_cons, List.nodup_cons, List.map_append, List.nodup_append]
        refine ⟨fun hm => ?_, hd1, hd3, fun a ha d hd => hd4 a ha d (List.mem_cons_of_mem _ hd)⟩
        rw [← List.map_append] at hm
        obtain ⟨p, hp, he⟩ := List.mem_map.1 hm
        have := old p hp
        omega
  · refine ⟨m1 ++ m2, ?_, hn, l1 ++ l2, ?_, ?_, hf1.app hf2⟩
    · refine (List.perm_append_comm_assoc m1 [(b, o')] m2).trans ?_
      exact List.perm_append_comm (l₁ := [(b, o')])
    · intro j x hj
      simp only [dropK, T.get_set] at hj
      split at hj
      · simp at hj
      · rename_i he
        exact List.mem_append.2 (other j x hj he)
    · simp only [List.map_append, List.nodup_append]
      exact ⟨hd1, hd3, fun a ha d hd => hd4 a ha d (List.mem_cons_of_mem _ hd)⟩

theorem SRel.at {S : St} (h : SRel P N S L) {k : Nat} {o : O} (ho : obj S k = some o) :
    ∃ b c o', N[k]? = some (b, c) ∧ (b, o') ∈ L ∧ ORelC P N c o o' ∧
      (∀ o1 o1', ORel P N c o1 o1' → ∃ L', Rep L b o' o1' L' ∧ SRel P N (setObj S k o1) L') ∧
      (∀ o1 o1', ORel P (N ++ [(b, c)]) c o1 o1' → ∃ L', Rep L b o' o1' L' ∧ SRel P (N ++ [(b, c)]) (swapObj S k o1) L') ∧
      (∃ L2, L.Perm (L2 ++ [(b, o')]) ∧ ∀ b1 c1 o1 o1', ORel P (N ++ [(b1, c1)]) c1 o1 o1' → SRel P (N ++ [(b1, c1)]) (swapObj S k o1) ((b1, o1') :: L2)) := by
  obtain ⟨h1, h2⟩ := obj_get ho
  obtain ⟨b, c, o', g1, g2, g3, g4, g5, g6, g7⟩ := h.atG h1
  exact ⟨b, c, o', g1, g2, g3.c h2, g4, g5, g6⟩

theorem SRel.atK {S : St} (h : SRel P N S L) {k : Nat} {q : K} (ho : kob S k = some q) :
    ∃ b c o', N[k]? = some (b, c) ∧ (b, o') ∈ L ∧ ORelK N q o' ∧
      (∀ q1 o1', ORelK N q1 o1' → ∃ L', Rep L b o' o1' L' ∧ SRel P N (setObj S k (mkK q1)) L') ∧
      (∃ L2, L.Perm (L2 ++ [(b, o')]) ∧ SRel P N (dropK S k) L2) := by
  obtain ⟨o, h1, h2⟩ := kob_get ho
  obtain ⟨b, c, o', g1, g2, g3, g4, g5, g6, g7⟩ := h.atG h1
  refine ⟨b, c, o', g1, g2, ?_, fun q1 o1' h => g4 _ _ (ORel.mk h), g7⟩
  unfold ORel at g3
  rw [h2] at g3
  exact g3

/-- a new block -/
theorem SRel.new {S : St} (h : SRel P N S L) {b c : Nat} {o : O} {o' : Obj} (ho : ORel P (N ++ [(b, c)]) c o o') : SRel P (N ++ [(b, c)]) (newObj S o) ((b, o') :: L) := by
  obtain ⟨hn, l, hl, hd, hf⟩ := h
  have hx : Ext N (N ++ [(b, c)]) := Ext.app _ _
  refine ⟨by simp [newObj, hn], (S.nx, o) :: l, ?_, ?_, .cons ⟨c, by rw [← hn]; exact getElem_last b c, ho⟩ (hf.imp fun _ _ h => h.mono hx)⟩
  · intro j x hj
    simp only [newObj, T.get_set] at hj
    simp only [List.mem_cons, Prod.mk.injEq]
    split at hj
    · rename_i he
      simp only [Option.some.injEq] at hj
      exact .inl ⟨he, hj.symm⟩
    · exact .inr (hl j x hj)
  · simp only [List.map_cons, List.nodup_cons]
    refine ⟨fun hm => ?_, hd⟩
    obtain ⟨p, hp, he⟩ := List.mem_map.1 hm
    obtain ⟨q, c, hc, _⟩ := hf.left hp
    have := (List.getElem?_eq_some_iff.1 hc).1
    omega

theorem new_name {S : St} (h : SRel P N S L) (b c : Nat) : (N ++ [(b, c)])[S.nx]? = some (b, c) := by rw [← h.1]; exact getElem_last b c

/-- cells that are known -/
theorem ORel.put {c : Nat} {e : TypeId} {l : List V} {xs : List Value} {cs : Array Value} {fz : Option Nat} {fr : Nat × Nat} (hd : dens N l = some xs) (hcs : ∀ i, i < xs.length → cs[i]? = xs[i]?) {n : Nat} {op : Bool}
    (hfz : ∀ n, fz = some n → fr.1 = fr.2 ∨ fr.2 ≤ n) (h0 : op = false → cs.size = n) (h1 : op = true → ∃ sz, szT P e = some sz ∧ 0 < sz ∧ n ≤ c * sz ∧ c * sz ≤ cs.size) :
    ORel P N c ⟨putL .leaf 0 l, n, e, fz, op, none⟩ (.cells cs e fr) := by
  refine ORelC.o rfl ?_
  refine ⟨cs, fr, rfl, fun i v hv => ?_, hfz, h0, h1⟩
  simp only [putL_get, T.get_leaf] at hv
  split at hv
  · rename_i hi
    simp only [Nat.sub_zero] at hv
    obtain ⟨x, hx, hdx⟩ := dens_get hd hv
    exact ⟨x, hdx, by rw [hcs i (List.getElem?_eq_some_iff.1 hx).1]; exact hx⟩
  · cases hv

/-- what is read -/
theorem getL_rd {S : St} (h : SRel P N S L) {k off n b c : Nat} {o : O} {l : List V} (ho : obj S k = some o) (hl : getL o.cells n off = some l) (hk : N[k]? = some (b, c)) :
    ∃ xs, dens N l = some xs ∧ RdN σ L ⟨b, off, none⟩ n xs.toArray := by
  obtain ⟨b', c', o', hk', hm, ⟨cs, fz, rfl, h2, h3, h4, h5⟩, _⟩ := h.at ho
  rw [hk] at hk'
  simp only [Option.some.injEq, Prod.mk.injEq] at hk'
  obtain ⟨rfl, rfl⟩ := hk'
  obtain ⟨g1, g2⟩ := getL_spec _ _ _ _ hl
  have key : ∀ (i : Nat) (v : V), l[i]? = some v → ∃ x, cs[off + i]? = some x ∧ den N v = some x := by
    intro i v hv
    have hi : i < n := by rw [← g1]; exact (List.getElem?_eq_some_iff.1 hv).1
    obtain ⟨x, hx, hc⟩ := h2 (off + i) v (by rw [g2 i hi]; exact hv)
    exact ⟨x, hc, hx⟩
  have hsz : off + n ≤ cs.size ∨ n = 0 := by
    cases n with
    | zero => exact .inr rfl
    | succ n =>
      obtain ⟨x, hx, _⟩ := key n _ (List.getElem?_eq_getElem (show n < l.length by omega))
      have := (Array.getElem?_eq_some_iff.1 hx).1
      omega
  let xs : List Value := (cs.toList.drop off).take n
  have hlen : xs.length = l.length := by
    simp only [xs, List.length_take, List.length_drop, Array.length_toList]
    omega
  have hget : ∀ i, i < n → xs[i]? = cs[off + i]? := by
    intro i hi
    simp only [xs, List.getElem?_take, if_pos hi, List.getElem?_drop]
    simp
  refine ⟨xs, dens_spec.2 ⟨hlen, fun i v hv => ?_⟩, by simp [hlen, g1], rfl, cs, o.e, fz, .inr hm, fun i hi => ?_⟩
  · obtain ⟨x, hx, hd⟩ := key i v hv
    have hi : i < n := by rw [← g1]; exact (List.getElem?_eq_some_iff.1 hv).1
    exact ⟨x, by rw [hget i hi]; exact hx, hd⟩
  · simp only [List.getElem?_toArray]
    exact (hget i hi).symm

theorem loadV_rd {S : St} (h : SRel P N S L) {t : TypeId} {k off b c : Nat} {v : V} (hl : loadV P S t k off = some v) (hk : N[k]? = some (b, c)) :
    ∃ x, den N v = some x ∧ ((isAggT P t = some false ∧ Rd σ L ⟨b, off, none⟩ x) ∨ (isAggT P t = some true ∧ ∃ n vs, szT P t = some n ∧ RdN σ L ⟨b, off, none⟩ n vs ∧ x = .agg vs)) := by
  unfold loadV at hl
  split at hl
  · rename_i ha
    cases ho : obj S k with
    | none => simp [ho] at hl
    | some o =>
      simp only [ho, Option.bind_some] at hl
      obtain ⟨b', c', o', hk', hm, ⟨cs, fz, rfl, h2, h3, h4, h5⟩, _⟩ := h.at ho
      rw [hk] at hk'
      simp only [Option.some.injEq, Prod.mk.injEq] at hk'
      obtain ⟨rfl, rfl⟩ := hk'
      obtain ⟨x, hd, hc⟩ := h2 off v hl
      exact ⟨x, hd, .inl ⟨ha, rfl, cs, o.e, fz, .inr hm, hc⟩⟩
  · rename_i ha
    cases hn : szT P t with
    | none => simp [hn] at hl
    | some n =>
      cases ho : obj S k with
      | none => simp [ho, hn] at hl
      | some o =>
        simp only [ho, hn, Option.bind_some] at hl
        cases hg : getL o.cells n off with
        | none => simp [hg] at hl
        | some l =>
          simp only [hg, Option.map_some, Option.some.injEq] at hl
          subst hl
          obtain ⟨xs, hd, hr⟩ := getL_rd (σ := σ) h ho hg hk
          exact ⟨.agg xs.toArray, mk_agg hd, .inr ⟨ha, n, xs.toArray, rfl, hr, rfl⟩⟩
  · cases hl

/-- what is written -/
theorem storeV_wr {S S' : St} (h : SRel P N S L) {k off : Nat} {l : List V} {xs : List Value} (hs : storeV S k off l = some S') (hd : dens N l = some xs) :
    ∃ b c, N[k]? = some (b, c) ∧ ∃ L', WrN L ⟨b, off, none⟩ xs L' ∧ SRel P N S' L' := by
  unfold storeV at hs
  cases ho : obj S k with
  | none => simp [ho] at hs
  | some o =>
    simp only [ho, Option.bind_some] at hs
    split at hs
    · rename_i hc
      simp only [Bool.and_eq_true] at hc
      have hle := Nat.le_of_ble_eq_true hc.1
      simp only [Option.some.injEq] at hs
      subst hs
      obtain ⟨b, c, o', hk, hm, ⟨cs, fz, rfl, h2, h3, h4, h5⟩, hw, _⟩ := h.at ho
      have hlen := dens_len hd
      have hsize : o.size ≤ cs.size := by
        cases hop : o.op with
        | false => rw [h4 hop]; exact Nat.le_refl _
        | true => obtain ⟨sz, _, _, h6, h7⟩ := h5 hop; omega
      have hfr : ∀ i, i < xs.length → (decide (fz.1 ≤ off + i) && decide (off + i < fz.2)) = false := by
        intro i hi
        unfold freeAt at hc
        split at hc
        · rename_i n hn
          have h6 := Nat.le_of_ble_eq_true hc.2
          rcases h3 n hn with h | h
          · simp; omega
          · simp; omega
        · simp at hc
      have hor : ORel P N c { o with cells := putL o.cells off l } (.cells (putN cs off xs) o.e fz) := by
        refine ORelC.o (obj_get ho).2 ?_
        refine ⟨putN cs off xs, fz, rfl, ?_, h3, fun hop => by rw [putN_size]; exact h4 hop, fun hop => by rw [putN_size]; exact h5 hop⟩
        intro i v hv
        simp only [putL_get] at hv
        rw [putN_get _ _ _ _ (by omega)]
        split at hv
        · rename_i hi
          rw [if_pos (by omega)]
          obtain ⟨x, hx, hdx⟩ := dens_get hd hv
          exact ⟨x, hdx, hx⟩
        · rename_i hi
          rw [if_neg (by omega)]
          exact h2 i v hv
      obtain ⟨L', hrep, hsr⟩ := hw _ _ hor
      exact ⟨b, c, hk, L', ⟨rfl, cs, o.e, fz, by simp only [hlen]; omega, hfr, hrep⟩, hsr⟩
    · cases hs
end Go.E
