import Derived.Test.YtoeboeihendiiaaGreatDoorX3
set_option linter.all false
namespace Go.X
attribute [local semireducible] xop
variable {P : Program} {σ : Sig} {ρ : Env} {K : Value → Hp → Prop} {L L' : Hp} {dst : Option Tmp} {ty : TypeId} {pos : String} {after : Array Edge} {guard : Option (Nat × Bool)}

/-- a slice's value, its elements' cells, what it owns -/
def Row (e : TypeId) (sz : Nat) (v : Value) (cells : List Value) (H : Hp) : Prop :=
  ∃ n cap, cells.length = n * sz ∧
    ((∃ b off c fz, v = .slice (some ⟨b, off, none⟩) n cap ∧ H = [(b, .cells c e fz)] ∧ off + cap * sz ≤ c.size ∧ n ≤ cap ∧ (∀ i, i < cells.length → c[off + i]? = cells[i]?) ∧
        (∀ i, off ≤ i → i < off + cap * sz → (decide (fz.1 ≤ i) && decide (i < fz.2)) = false)) ∨
     (v = .slice none 0 0 ∧ n = 0 ∧ H = []))

theorem Row.nil (e : TypeId) (sz : Nat) : Row e sz (.slice none 0 0) [] [] := ⟨0, 0, by simp, .inr ⟨rfl, rfl, rfl⟩⟩

/-- a new row -/
theorem Row.mk (e : TypeId) (sz n : Nat) (b : Nat) (cs : Array Value) (h : cs.size = n * sz) : Row e sz (.slice (some ⟨b, 0, none⟩) n n) cs.toList [(b, .cells cs e (0, 0))] :=
  ⟨n, n, by simpa using h, .inl ⟨b, 0, cs, (0, 0), rfl, rfl, by omega, Nat.le_refl _, fun i hi => by simp, fun i _ _ => by simp⟩⟩

theorem putN_size (vs : List Value) : ∀ (c : Array Value) (off : Nat), (putN c off vs).size = c.size := by
  induction vs with
  | nil => intro c off; rfl
  | cons v vs ih => intro c off; simp [putN, ih]

theorem putN_get (vs : List Value) : ∀ (c : Array Value) (off i : Nat), off + vs.length ≤ c.size →
    (putN c off vs)[i]? = if off ≤ i ∧ i < off + vs.length then vs[i - off]? else c[i]? := by
  induction vs with
  | nil => intro c off i _; simp [putN]; omega
  | cons v vs ih =>
    intro c off i h
    simp only [List.length_cons] at h
    rw [putN, ih _ _ _ (by simp; omega)]
    simp only [List.length_cons]
    by_cases h1 : off + 1 ≤ i ∧ i < off + 1 + vs.length
    · rw [if_pos h1, if_pos (by omega)]
      obtain ⟨k, rfl⟩ : ∃ k, i = off + 1 + k := ⟨i - (off + 1), by omega⟩
      rw [show off + 1 + k - (off + 1) = k from by omega, show off + 1 + k - off = k + 1 from by omega]
      simp
    · rw [if_neg h1]
      by_cases h2 : i = off
      · subst h2
        rw [if_pos (by omega)]
        simp [show i < c.size from by omega]
      · rw [if_neg (by omega), Array.getElem?_setIfInBounds_ne (by omega)]

/-- what append and copy read: so many elements, these cells -/
def Src (P : Program) (σ : Sig) (sz m : Nat) (x : Value) (new : List Value) (L : Hp) : Prop :=
  Builtin.lenOf x = pure m ∧ xq P σ (Builtin.firstCells sz m x) (fun a => a = new.toArray) L

theorem Src.slice {sz m c : Nat} {a : Addr} {new : List Value} (h : RdN σ L a (m * sz) new.toArray) : Src P σ sz m (.slice (some a) m c) new L :=
  ⟨rfl, xq_loadCells h rfl⟩
theorem Src.nil {sz : Nat} : Src P σ sz 0 (.slice none 0 0) [] L := ⟨rfl, rfl⟩
theorem Src.str {s : ByteArray} {sz : Nat} : Src P σ sz s.size (.string s) (s.data.toList.map fun b => .int .u8 b.toNat) L := by
  refine ⟨rfl, ?_⟩
  show _ = _
  have : (s.extract 0 s.size).data = s.data := by
    rw [ByteArray.data_extract]
    exact Array.extract_size
  rw [this]
  apply Array.ext'
  simp

theorem Row.rd {e : TypeId} {sz : Nat} {v : Value} {cells : List Value} {H : Hp} (h : Row e sz v cells H) (hs : ∀ p ∈ H, p ∈ L) (hne : cells ≠ []) :
    ∃ a n c, v = .slice (some a) n c ∧ a.spot = none ∧ cells.length = n * sz ∧ RdN σ L a cells.length cells.toArray := by
  obtain ⟨n, cap, hl, ⟨b, off, c, fz, rfl, rfl, h1, h2, h3, h4⟩ | ⟨rfl, rfl, rfl⟩⟩ := h
  · exact ⟨_, _, _, rfl, rfl, hl, by simp, rfl, c, e, fz, .inr (hs _ (by simp)), fun i hi => by simpa using h3 i hi⟩
  · simp at hl; exact absurd hl hne

theorem growBy_le (newLen : Nat) : ∀ (r c : Nat), c ≤ newLen → Builtin.growBy newLen r c ≤ 2 * newLen + 256
  | 0, c, h => by simp only [Builtin.growBy]; omega
  | r + 1, c, h => by
    simp only [Builtin.growBy]
    split
    · omega
    · rename_i hc
      by_cases h2 : c + (c + 768) / 4 ≤ newLen
      · exact growBy_le newLen r _ h2
      · cases r with
        | zero => simp only [Builtin.growBy]; omega
        | succ r => simp only [Builtin.growBy]; rw [if_pos (by omega)]; omega

theorem nextcap_le (need cap : Nat) (h : cap < need) : Builtin.nextslicecap need cap ≤ 2 * need + 256 := by
  unfold Builtin.nextslicecap
  split
  · omega
  · split
    · omega
    · exact growBy_le need 4 cap (by omega)

theorem zeroCells_size (z : Array Value) (n : Nat) : (Builtin.zeroCells z n).size = n * z.size := by simp [Builtin.zeroCells]

theorem WrN.at {A B : Hp} {b off : Nat} {c : Array Value} {e : TypeId} {fz : Nat × Nat} {vs : List Value} (h1 : off + vs.length ≤ c.size)
    (h2 : ∀ i, i < vs.length → (decide (fz.1 ≤ off + i) && decide (off + i < fz.2)) = false) :
    WrN (A ++ ((b, .cells c e fz) :: B)) ⟨b, off, none⟩ vs (A ++ ((b, .cells (putN c off vs) e fz) :: B)) :=
  ⟨rfl, c, e, fz, h1, h2, A, B, rfl, rfl⟩

def srcT (P : Program) (t : TypeId) : Bool :=
  match P.underlying t with
  | some .string | some (.slice _) => true
  | _ => false
theorem srcT_spec {t : TypeId} (h : srcT P t = true) : P.underlying t = some .string ∨ ∃ e, P.underlying t = some (.slice e) := by
  unfold srcT at h
  cases hu : P.underlying t with
  | none => simp [hu] at h
  | some d => cases d <;> simp_all

theorem firstCells_some {sz n : Nat} {a : Addr} {l c : Nat} : Builtin.firstCells sz n (.slice (some a) l c) = loadCells a (n * sz) := rfl

theorem xwp_append_fit {t t' e : TypeId} {sz : Nat} {x : Value} {a : Addr} {n cap m : Nat} {new : List Value}
    (ht : elemOfSl P t = some e) (hs : szT P e = some sz) (ht' : srcT P t' = true) (hx : Src P σ sz m x new L) (hfit : n + m ≤ cap)
    (ha : a.spot = none) (h1 : ∀ u ∈ new, u.oneCell = true) (hw : WrN L (a.add (n * sz)) new L') (hk : K (.slice (some a) (n + m) cap) L') :
    xwp P σ (Builtin.append_ #[t, t'] ty #[.slice (some a) n cap, x]) K L := by
  have hst : xwp P σ (storeCells (a.add (n * sz)) new) (fun _ L => K (.slice (some a) (n + m) cap) L) L := by
    have hsp : (a.add (n * sz)).spot = none := by rw [add_add a ha]
    refine xwp_storeCells new 0 h1 ?_ hk hsp
    rw [add_add _ hsp, Nat.add_zero]
    have : (a.add (n * sz)) = ⟨(a.add (n * sz)).block, (a.add (n * sz)).off, none⟩ := by rw [add_add a ha]
    rw [← this]; exact hw
  rcases srcT_spec ht' with hu | ⟨e', hu⟩ <;>
  · simp [Builtin.append_, xwp_bind, xwp_underlying_eq, xwp_sizeOf_eq, elemOfSl_spec ht, hs, hu, xwp_pure_eq, hx.1, hfit]
    refine xq_xwp _ (fun r hr => ?_) hx.2
    subst hr
    simpa [xwp_map] using hst

theorem xwp_append_grow {t t' e : TypeId} {sz by' : Nat} {z x : Value} {base : Option Addr} {n cap m : Nat} {old new : List Value}
    (ht : elemOfSl P t = some e) (hs : szT P e = some sz) (hz : zeroT P e = some z) (hby : bytesT P e = some by') (ht' : srcT P t' = true)
    (hold : xq P σ (Builtin.firstCells sz n (.slice base n cap)) (fun r => r = old.toArray) L) (hx : Src P σ sz m x new L) (hgrow : cap < n + m)
    (hb1 : (n + m) * by' ≤ 2 ^ 46) (hb2 : by' ≤ 4096) (hb3 : 0 < by')
    (hk : ∀ b c, n + m ≤ c → K (.slice (some ⟨b, 0, none⟩) (n + m) c) ((b, .cells (old.toArray ++ new.toArray ++ Builtin.zeroCells z.cells (c - (n + m))) e (0, 0)) :: L)) :
    xwp P σ (Builtin.append_ #[t, t'] ty #[.slice base n cap, x]) K L := by
  have hn := nextcap_le (n + m) cap hgrow
  have hfit : ¬ (2 ^ 48 < Builtin.nextslicecap (n + m) cap * by') := by
    have : Builtin.nextslicecap (n + m) cap * by' ≤ (2 * (n + m) + 256) * by' := Nat.mul_le_mul_right _ hn
    have h2 : (2 * (n + m) + 256) * by' = 2 * ((n + m) * by') + 256 * by' := by rw [Nat.add_mul, Nat.mul_assoc]
    omega
  have hsmall : n + m ≤ 2 ^ 46 := Nat.le_trans (Nat.le_mul_of_pos_right _ hb3) hb1
  have h63 : ¬ (9223372036854775807 < ((n : Int) + (m : Int))) := by omega
  have hnot : ¬ (n + m ≤ cap) := by omega
  unfold bytesT at hby
  cases hi : P.info? e with
  | none => simp [hi] at hby
  | some inf =>
    simp only [hi, Option.map_some, Option.some.injEq] at hby
    subst hby
    have hf : ((Question.appendCap (n + m) cap e).forced) = false := rfl
    rcases srcT_spec ht' with hu | ⟨e', hu⟩ <;>
    · simp only [Nat.reducePow] at hfit
      simp [Builtin.append_, xwp_bind, xwp_underlying_eq, xwp_sizeOf_eq, elemOfSl_spec ht, hs, hu, xwp_pure_eq, hx.1, hnot, xwp_typeInfo_eq, hi, h63, hfit]
      simp only [choose, xwp, hf]
      intro tt
      have hc : n + m ≤ (Question.appendCap (n + m) cap e).cut tt := by simp only [Question.cut]; omega
      generalize (Question.appendCap (n + m) cap e).cut tt = c at hc
      have rest : xwp P σ (Builtin.firstCells sz n (.slice base n cap)) (fun a L => xwp P σ (Builtin.firstCells sz m x) (fun a_1 L =>
          xwp P σ (zeroValue e) (fun a_2 L => xwp P σ (newRow e (a ++ a_1 ++ Builtin.zeroCells a_2.cells (c - (n + m)))) (fun a L => K (.slice (some a) (n + m) c) L) L) L) L) L := by
        refine xq_xwp _ (fun r hr => ?_) hold
        subst hr
        refine xq_xwp _ (fun r hr => ?_) hx.2
        subst hr
        rw [xwp_zeroValue_eq, hz]
        simp only [newRow, xwp_bind, xwp_newObj_eq, xwp_pure_eq]
        exact fun b => hk b c hc
      simp only [askRoom]
      split
      · simpa [xwp, mark, xwp_bind, xwp_pure_eq, xwp_map] using rest
      · simpa [xwp, xwp_bind, xwp_pure_eq, xwp_map] using rest

theorem xop_append {s x : Operand} {t t' : TypeId} (h : xwp P σ (Builtin.append_ #[t, t'] ty #[ev ρ s, ev ρ x]) K L) :
    xop P σ ⟨dst, .call { callee := .builtin .append, args := #[s, x], argTypes := #[t, t'] }, ty, pos, after, guard⟩ ρ K L := by
  unfold xop
  simp only [execOp, resolve, pure_bind, invoke, builtin]
  rw [xv]
  simpa using h

theorem Src.mem {sz m : Nat} {x : Value} {new : List Value} (h : Src P σ sz m x new L) (hs : ∀ p ∈ L, p ∈ L') : Src P σ sz m x new L' := by
  refine ⟨h.1, ?_⟩
  have key : ∀ {α : Type} (s : Sem α) (Q : α → Prop), xq P σ s Q L → xq P σ s Q L' := by
    intro α s
    have hat : ∀ b o, At σ L b o → At σ L' b o := fun b o h => h.imp id (hs _)
    induction s with
    | pure a => intro Q h; exact h
    | load m a k ih => intro Q h; exact let ⟨v, ⟨h1, c, e, fz, ha, hc⟩, h⟩ := h; ⟨v, ⟨h1, c, e, fz, hat _ _ ha, hc⟩, ih _ _ h⟩
    | shape r k ih => intro Q h; exact let ⟨v, hr, h⟩ := h; ⟨v, hat _ _ hr, ih _ _ h⟩
    | frozen a k ih => intro Q h; exact let ⟨v, hr, h⟩ := h; ⟨v, hat _ _ hr, ih _ _ h⟩
    | getObj r k ih => intro Q h; exact let ⟨v, hr, hn, h⟩ := h; ⟨v, hat _ _ hr, hn, ih _ _ h⟩
    | program k ih => intro Q h; exact ih _ _ h
    | mark m k ih => intro Q h; exact ih _ h
    | _ => intro Q h; exact h.elim
  exact key _ _ h.2

/-- K is kept where more is owned -/
def Clo (K : Value → Hp → Prop) : Prop := ∀ v L L' R, L.Perm (L' ++ R) → K v L' → K v L

/-- append to a row that is owned -/
theorem xwp_append_row {t t' e : TypeId} {sz by' m : Nat} {z x : Value} {cells new : List Value} {v : Value} {H : Hp} (A B : Hp)
    (ht : elemOfSl P t = some e) (hs : szT P e = some sz) (hz : zeroT P e = some z) (hby : bytesT P e = some by') (ht' : srcT P t' = true) (hzs : z.cells.size = sz) (hsz : 0 < sz)
    (hrow : Row e sz v cells H) (hx : Src P σ sz m x new (A ++ (H ++ B))) (h1 : ∀ u ∈ new, u.oneCell = true) (hm : new.length = m * sz)
    (hb1 : (cells.length + new.length) * by' ≤ 2 ^ 46) (hb2 : by' ≤ 4096) (hb3 : 0 < by') (hclo : Clo K)
    (hk : ∀ v' H', Row e sz v' (cells ++ new) H' → K v' (A ++ (H' ++ B))) :
    xwp P σ (Builtin.append_ #[t, t'] ty #[v, x]) K (A ++ (H ++ B)) := by
  obtain ⟨n, cap, hl, hr⟩ := hrow
  have hbig : (n + m) * by' ≤ 2 ^ 46 := by
    refine Nat.le_trans (Nat.mul_le_mul_right _ ?_) hb1
    rw [hl, hm, ← Nat.add_mul]
    exact Nat.le_mul_of_pos_right _ hsz
  have grow : ∀ b c, n + m ≤ c → Row e sz (.slice (some ⟨b, 0, none⟩) (n + m) c) (cells ++ new) [(b, .cells (cells.toArray ++ new.toArray ++ Builtin.zeroCells z.cells (c - (n + m))) e (0, 0))] := by
    intro b c hc
    have hsize : (cells.toArray ++ new.toArray ++ Builtin.zeroCells z.cells (c - (n + m))).size = c * sz := by
      simp only [Array.size_append, zeroCells_size, hzs, List.size_toArray]
      rw [hl, hm, ← Nat.add_mul, ← Nat.add_mul]
      congr 1
      omega
    refine ⟨n + m, c, by simp [hl, hm, Nat.add_mul], .inl ⟨b, 0, _, (0, 0), rfl, rfl, by rw [hsize]; omega, hc, fun i hi => ?_, fun i _ _ => by simp⟩⟩
    simp only [List.length_append] at hi
    rw [Nat.zero_add, Array.getElem?_append_left (by simpa using hi)]
    simp
  obtain ⟨b, off, c, fz, rfl, rfl, h2, h3, h4, h5⟩ | ⟨rfl, rfl, rfl⟩ := hr
  · by_cases hfit : n + m ≤ cap
    · have hle : off + n * sz + new.length ≤ c.size := by
        have : (n + m) * sz ≤ cap * sz := Nat.mul_le_mul_right _ hfit
        rw [Nat.add_mul] at this
        omega
      have hle2 : off + n * sz + new.length ≤ off + cap * sz := by
        have : (n + m) * sz ≤ cap * sz := Nat.mul_le_mul_right _ hfit
        rw [Nat.add_mul] at this
        omega
      refine xwp_append_fit (L' := A ++ ([(b, .cells (putN c (off + n * sz) new) e fz)] ++ B)) ht hs ht' hx hfit rfl h1 ?_ (hk _ _ ?_)
      · rw [add_mk]
        exact WrN.at hle (fun i hi => h5 _ (by omega) (by omega))
      · refine ⟨n + m, cap, by simp [hl, hm, Nat.add_mul], .inl ⟨b, off, _, fz, rfl, rfl, by rw [putN_size]; exact h2, hfit, fun i hi => ?_, h5⟩⟩
        simp only [List.length_append] at hi
        rw [putN_get _ _ _ _ hle]
        by_cases hin : n * sz ≤ i
        · rw [if_pos (by omega), List.getElem?_append_right (by omega)]
          congr 1
          omega
        · rw [if_neg (by omega), List.getElem?_append_left (by omega)]
          exact h4 i (by omega)
    · refine xwp_append_grow (old := cells) (new := new) ht hs hz hby ht' ?_ hx (by omega) hbig hb2 hb3 ?_
      · rw [firstCells_some]
        exact xq_loadCells ⟨by simpa using hl, rfl, c, e, fz, .inr (by simp), fun i hi => by simpa using h4 i (by omega)⟩ rfl
      · intro b' c' hc'
        refine hclo _ _ (A ++ ([(b', _)] ++ B)) [(b, .cells c e fz)] ?_ (hk _ _ (grow b' c' hc'))
        classical
        rw [List.perm_iff_count]
        intro x
        simp only [List.count_append, List.count_cons, List.count_nil]
        omega
  · simp at hl
    subst hl
    by_cases hm0 : m = 0
    · subst hm0
      simp at hm
      subst hm
      have := hk (.slice none 0 0) [] (by simpa using Row.nil e sz)
      rcases srcT_spec ht' with hu | ⟨e', hu⟩ <;>
      · simp [Builtin.append_, xwp_bind, xwp_underlying_eq, xwp_sizeOf_eq, elemOfSl_spec ht, hs, hu, hx.1, xwp_map]
        exact xq_xwp _ (fun r hr => by simpa using this) hx.2
    · refine xwp_append_grow (old := []) (new := new) ht hs hz hby ht' rfl hx (by omega) hbig hb2 hb3 ?_
      intro b' c' hc'
      refine hclo _ _ (A ++ ([(b', _)] ++ B)) [] ?_ (hk _ _ (grow b' c' hc'))
      classical
      rw [List.perm_iff_count]
      intro x
      simp only [List.count_append, List.count_cons, List.count_nil]
      omega
end Go.X
