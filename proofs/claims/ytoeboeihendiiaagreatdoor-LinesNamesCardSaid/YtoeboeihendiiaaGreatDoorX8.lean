import Derived.Test.YtoeboeihendiiaaGreatDoorX7
set_option linter.all false
namespace Go.X
set_option linter.unusedSimpArgs false
variable {P : Program} {σ : Sig} {L L' : Hp}

theorem Clo_wk {K : Value → Hp → Prop} : Clo fun v L => Wk (K v) L := fun _ _ _ R hp h => h.wk R hp

theorem RdN.whole {b : Nat} {c : Array Value} {e : TypeId} {fz : Nat × Nat} {R : Hp} {m : Nat} (hm : c.size = m) : RdN σ ((b, .cells c e fz) :: R) ⟨b, 0, none⟩ m c :=
  ⟨hm, rfl, c, e, fz, .inr (by simp), fun i _ => by simp⟩

/-- what is appended: a literal of its own -/
theorem Src.lit {b : Nat} {c : Array Value} {e : TypeId} {fz : Nat × Nat} {sz m cap : Nat} {new : List Value} (ha : At σ L b (.cells c e fz)) (hc : c = new.toArray) (hm : new.length = m * sz) :
    Src P σ sz m (.slice (some ⟨b, 0, none⟩) m cap) new L :=
  Src.slice ⟨by simpa using hm, rfl, c, e, fz, ha, fun i _ => by simp [hc]⟩

theorem Row.src {e : TypeId} {sz : Nat} {v : Value} {cells : List Value} {H : Hp} (h : Row e sz v cells H) (hs : ∀ p ∈ H, p ∈ L) : ∃ m, Src P σ sz m v cells L ∧ cells.length = m * sz := by
  obtain ⟨n, cap, hl, ⟨b, off, c, fz, rfl, rfl, h1, h2, h3, h4⟩ | ⟨rfl, rfl, rfl⟩⟩ := h
  · exact ⟨n, Src.slice ⟨by simpa using hl, rfl, c, e, fz, .inr (hs _ (by simp)), fun i hi => by simpa using h3 i (by omega)⟩, hl⟩
  · simp at hl; subst hl; exact ⟨0, Src.nil, by simp⟩

/-- a row's value is a slice, so long -/
theorem Row.val {e : TypeId} {sz : Nat} {v : Value} {cells : List Value} {H : Hp} (h : Row e sz v cells H) (n : Nat) (hn : cells.length = n * sz) (hsz : 0 < sz) :
    ∃ a cap, v = .slice a n cap ∧ n ≤ cap := by
  obtain ⟨m, cap, hl, ⟨b, off, c, fz, rfl, rfl, h1, h2, h3, h4⟩ | ⟨rfl, rfl, rfl⟩⟩ := h
  · have : m = n := Nat.eq_of_mul_eq_mul_right hsz (by omega)
    subst this
    exact ⟨_, _, rfl, h2⟩
  · simp at hl; subst hl
    have : n = 0 := by
      have h0 : n * sz = 0 := by simpa using hn.symm
      rcases Nat.mul_eq_zero.1 h0 with h | h <;> omega
    subst this
    exact ⟨_, _, rfl, Nat.le_refl _⟩

/-- one with elements: where it lies -/
theorem Row.val' {e : TypeId} {sz : Nat} {v : Value} {cells : List Value} {H : Hp} (h : Row e sz v cells H) (n : Nat) (hn : cells.length = n * sz) (hsz : 0 < sz) (h0 : 0 < n) :
    ∃ b off cap c fz, v = .slice (some ⟨b, off, none⟩) n cap ∧ H = [(b, .cells c e fz)] ∧ n ≤ cap ∧ off + cap * sz ≤ c.size ∧ (∀ i, i < cells.length → c[off + i]? = cells[i]?) ∧
      (∀ i, off ≤ i → i < off + cap * sz → (decide (fz.1 ≤ i) && decide (i < fz.2)) = false) := by
  obtain ⟨m, cap, hl, ⟨b, off, c, fz, rfl, rfl, h1, h2, h3, h4⟩ | ⟨rfl, rfl, rfl⟩⟩ := h
  · have : m = n := Nat.eq_of_mul_eq_mul_right hsz (by omega)
    subst this
    exact ⟨b, off, cap, c, fz, rfl, rfl, h2, h1, h3, h4⟩
  · simp at hl; subst hl
    have h0 : n * sz = 0 := by simpa using hn.symm
    rcases Nat.mul_eq_zero.1 h0 with h | h <;> omega

theorem Row.get {e : TypeId} {sz : Nat} {cells : List Value} {H : Hp} {b off cap n : Nat} (h : Row e sz (.slice (some ⟨b, off, none⟩) n cap) cells H) (hs : ∀ p ∈ H, p ∈ L) {i : Nat} {v : Value} (hi : cells[i]? = some v) :
    Rd σ L ⟨b, off + i, none⟩ v := by
  obtain ⟨m, cap', hl, ⟨b', off', c, fz, hv, rfl, h1, h2, h3, h4⟩ | ⟨hv, rfl, rfl⟩⟩ := h
  · simp only [Value.slice.injEq, Option.some.injEq, Addr.mk.injEq, and_true] at hv
    obtain ⟨⟨rfl, rfl⟩, rfl, rfl⟩ := hv
    have hlt : i < cells.length := (List.getElem?_eq_some_iff.1 hi).1
    exact ⟨rfl, c, e, fz, .inr (hs _ (by simp)), by rw [h3 i hlt]; exact hi⟩
  · cases hv

theorem Row.getN {e : TypeId} {sz : Nat} {cells : List Value} {H : Hp} {b off cap n : Nat} (h : Row e sz (.slice (some ⟨b, off, none⟩) n cap) cells H) (hs : ∀ p ∈ H, p ∈ L) {i m : Nat} {vs : List Value}
    (hi : ∀ j, j < m → cells[i + j]? = vs[j]?) (hm : vs.length = m) : RdN σ L ⟨b, off + i, none⟩ m vs.toArray := by
  obtain ⟨k, cap', hl, ⟨b', off', c, fz, hv, rfl, h1, h2, h3, h4⟩ | ⟨hv, rfl, rfl⟩⟩ := h
  · simp only [Value.slice.injEq, Option.some.injEq, Addr.mk.injEq, and_true] at hv
    obtain ⟨⟨rfl, rfl⟩, rfl, rfl⟩ := hv
    refine ⟨by simpa using hm, rfl, c, e, fz, .inr (hs _ (by simp)), fun j hj => ?_⟩
    have h5 := hi j hj
    have hlt : i + j < cells.length := by
      have h6 : vs[j]? = some vs[j] := List.getElem?_eq_getElem (by omega)
      rw [h6] at h5
      exact (List.getElem?_eq_some_iff.1 h5).1
    show c[off + i + j]? = _
    rw [Nat.add_assoc, h3 _ hlt, h5]
    simp
  · cases hv

/-- cut at its end -/
theorem Row.take {e : TypeId} {sz n cap k : Nat} {a : Option Addr} {cells : List Value} {H : Hp} (h : Row e sz (.slice a n cap) cells H) (hk : k ≤ n) : Row e sz (.slice a k cap) (cells.take (k * sz)) H := by
  obtain ⟨m, cap', hl, ⟨b, off, c, fz, hv, rfl, h1, h2, h3, h4⟩ | ⟨hv, rfl, rfl⟩⟩ := h
  · simp only [Value.slice.injEq] at hv
    obtain ⟨rfl, rfl, rfl⟩ := hv
    have hle : k * sz ≤ n * sz := Nat.mul_le_mul_right _ hk
    refine ⟨k, cap, by rw [List.length_take, hl, Nat.min_eq_left hle], .inl ⟨b, off, c, fz, rfl, rfl, h1, by omega, fun i hi => ?_, h4⟩⟩
    simp only [List.length_take] at hi
    rw [h3 i (by omega), List.getElem?_take]
    rw [if_pos (by omega)]
  · simp only [Value.slice.injEq] at hv
    obtain ⟨rfl, rfl, rfl⟩ := hv
    obtain rfl : k = 0 := by omega
    refine ⟨0, 0, by simp, .inr ⟨rfl, rfl, rfl⟩⟩

theorem Row.len {e : TypeId} {sz n cap : Nat} {a : Option Addr} {cells : List Value} {H : Hp} (h : Row e sz (.slice a n cap) cells H) : cells.length = n * sz ∧ n ≤ cap := by
  obtain ⟨m, cap', hl, ⟨b, off, c, fz, hv, rfl, h1, h2, h3, h4⟩ | ⟨hv, rfl, rfl⟩⟩ := h
  · simp only [Value.slice.injEq] at hv
    obtain ⟨rfl, rfl, rfl⟩ := hv
    exact ⟨hl, h2⟩
  · simp only [Value.slice.injEq] at hv
    obtain ⟨rfl, rfl, rfl⟩ := hv
    exact ⟨hl, by omega⟩

/-- a new block that is a row -/
theorem Row.lit {e : TypeId} {sz n b : Nat} {c : Array Value} (h : c.size = n * sz) : Row e sz (.slice (some ⟨b, 0, none⟩) n n) c.toList [(b, .cells c e (0, 0))] := Row.mk e sz n b c h
end Go.X
