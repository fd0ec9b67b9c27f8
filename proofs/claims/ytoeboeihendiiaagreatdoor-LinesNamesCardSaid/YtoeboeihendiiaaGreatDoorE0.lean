import Derived.Test.YtoeboeihendiiaaGreatDoorX10
set_option linter.all false
namespace Go.E
open Go.X
variable {ops : Array Oper}

/-! the plan of a region, looked at by masks -/
def bit (m i : Nat) : Bool := Nat.beq (Nat.land (Nat.shiftRight m i) 1) 1

theorem bit_eq (m i : Nat) : bit m i = m.testBit i := by
  unfold bit Nat.testBit
  have h : Nat.land (Nat.shiftRight m i) 1 = (m >>> i) &&& 1 := rfl
  rw [h, Nat.and_comm (1 : Nat)]
  have h2 : (m >>> i) &&& 1 = (m >>> i) % 2 := Nat.and_one_is_mod _
  rw [h2]
  have : (m >>> i) % 2 = 0 ∨ (m >>> i) % 2 = 1 := by omega
  rcases this with h | h <;> rw [h] <;> rfl

def mkMask (f : Nat → Bool) : Nat → Nat
  | 0 => 0
  | n + 1 => match f n with
    | true => Nat.lor (mkMask f n) (Nat.shiftLeft 1 n)
    | false => mkMask f n

theorem shl (n : Nat) : Nat.shiftLeft 1 n = 2 ^ n := by
  show 1 <<< n = 2 ^ n
  rw [Nat.shiftLeft_eq, Nat.one_mul]

theorem mkMask_bit (f : Nat → Bool) : ∀ n i, bit (mkMask f n) i = (decide (i < n) && f i)
  | 0, i => by simp [mkMask, bit_eq]
  | n + 1, i => by
    have ih := mkMask_bit f n i
    rw [bit_eq] at ih ⊢
    unfold mkMask
    cases hf : f n with
    | true =>
      simp only
      show (mkMask f n ||| Nat.shiftLeft 1 n).testBit i = _
      rw [shl, Nat.testBit_or, ih, Nat.testBit_two_pow]
      by_cases hi : n = i
      · subst hi; simp [hf]
      · have : (decide (i < n + 1)) = decide (i < n) := by simp; omega
        rw [this]; simp [hi]
    | false =>
      simp only
      rw [ih]
      by_cases hi : i = n
      · subst hi; simp [hf]
      · have : (decide (i < n + 1)) = decide (i < n) := by simp; omega
        rw [this]

/-! what an operation looks at, as a mask -/
def opdM : List Operand → Nat
  | [] => 0
  | .tmp t :: l => Nat.lor (opdM l) (Nat.shiftLeft 1 t)
  | _ :: l => opdM l

theorem opdM_mem {d : Nat} : ∀ {l : List Operand}, Operand.tmp d ∈ l → bit (opdM l) d = true
  | x :: l, h => by
    rcases List.mem_cons.1 h with h | h
    · subst h
      rw [bit_eq]
      show (opdM l ||| Nat.shiftLeft 1 d).testBit d = true
      rw [shl, Nat.testBit_or, Nat.testBit_two_pow]
      simp
    · have ih := opdM_mem h
      cases x with
      | tmp t =>
        rw [bit_eq] at ih ⊢
        show (opdM l ||| Nat.shiftLeft 1 t).testBit d = true
        rw [Nat.testBit_or, ih, Bool.true_or]
      | const v => exact ih
      | global g => exact ih
      | func f => exact ih

def lookM (ops : Array Oper) (o : Oper) : Nat :=
  match o.guard with
  | some (g, _) => match (ops[g]?).bind (·.dst) with
    | some d => Nat.lor (opdM o.op.operands.toList) (Nat.shiftLeft 1 d)
    | none => opdM o.op.operands.toList
  | none => opdM o.op.operands.toList

theorem lookM_mem {ops : Array Oper} {o : Oper} {d : Nat} (h : d ∈ o.looksAt ops) : bit (lookM ops o) d = true := by
  unfold Oper.looksAt at h
  rw [List.mem_append] at h
  have h1 : ∀ m, bit (opdM o.op.operands.toList) d = true → bit (Nat.lor (opdM o.op.operands.toList) m) d = true := by
    intro m h
    rw [bit_eq] at h ⊢
    show (opdM o.op.operands.toList ||| m).testBit d = true
    rw [Nat.testBit_or, h, Bool.true_or]
  rcases h with h | h
  · rw [List.mem_filterMap] at h
    obtain ⟨x, hx, hxd⟩ := h
    have hxt : x = .tmp d := by
      cases x <;> simp at hxd
      rw [hxd]
    subst hxt
    have := opdM_mem hx
    unfold lookM
    split
    · split
      · exact h1 _ this
      · exact this
    · exact this
  · unfold lookM
    split at h
    · rename_i g w hg
      rw [Option.mem_toList] at h
      simp only [hg]
      rw [Option.mem_def.1 h]
      simp only
      rw [bit_eq]
      show (opdM o.op.operands.toList ||| Nat.shiftLeft 1 d).testBit d = true
      rw [shl, Nat.testBit_or, Nat.testBit_two_pow]
      simp
    · cases h

theorem lookM_no {ops : Array Oper} {o : Oper} {d : Nat} (h : bit (lookM ops o) d = false) : (o.looksAt ops).contains d = false := by
  cases hc : (o.looksAt ops).contains d with
  | false => rfl
  | true => rw [lookM_mem (List.contains_iff_mem.1 hc)] at h; cases h

def dstM (o : Oper) : Nat := match o.dst with | some d => Nat.shiftLeft 1 d | none => 0

def apM (a b : Nat × Nat) : Bool := Nat.beq (Nat.land a.2 b.1) 0 && Nat.beq (Nat.land a.2 b.2) 0 && Nat.beq (Nat.land b.2 a.1) 0

theorem land0 {d m : Nat} (h : Nat.beq (Nat.land (Nat.shiftLeft 1 d) m) 0 = true) : bit m d = false := by
  have h := Nat.eq_of_beq_eq_true h
  rw [bit_eq]
  have h2 : (2 ^ d &&& m).testBit d = false := by
    have : 2 ^ d &&& m = 0 := by rw [← shl]; exact h
    rw [this]; simp
  rw [Nat.testBit_and, Nat.testBit_two_pow] at h2
  simpa using h2

theorem apM_ok {ops : Array Oper} {x y : Oper} (h : apM (lookM ops x, dstM x) (lookM ops y, dstM y) = true) : x.apart ops y = true := by
  unfold apM at h
  simp only [Bool.and_eq_true] at h
  obtain ⟨⟨h1, h2⟩, h3⟩ := h
  unfold Oper.apart
  rw [Bool.and_eq_true]
  constructor
  · cases hx : x.dst with
    | none => rfl
    | some d =>
      simp only [dstM, hx] at h1 h2
      have g1 := lookM_no (land0 h1)
      simp only [g1, Bool.not_false, Bool.true_and]
      cases hy : y.dst with
      | none => rfl
      | some e =>
        simp only [dstM, hy] at h2
        have g2 := land0 h2
        rw [bit_eq, shl, Nat.testBit_two_pow] at g2
        simp only [decide_eq_false_iff_not] at g2
        simpa using g2
  · cases hy : y.dst with
    | none => rfl
    | some d =>
      simp only [dstM, hy] at h3
      have g1 := lookM_no (land0 h3)
      simp only [g1, Bool.not_false]

structure Tb where
  n : Nat
  pre : List Nat
  dep : List Nat
  ap : List Nat

def preOf (es : List Edge) : Nat :=
  match es with
  | [] => 0
  | e :: es => match Region.binds .any e with
    | true => Nat.lor (preOf es) (Nat.shiftLeft 1 e.on)
    | false => preOf es

theorem preOf_bit (es : List Edge) (i : Nat) : bit (preOf es) i = es.any fun e => Region.binds .any e && e.on == i := by
  induction es with
  | nil => simp [preOf, bit_eq]
  | cons e es ih =>
    rw [bit_eq] at ih ⊢
    unfold preOf
    cases hb : Region.binds .any e with
    | true =>
      simp only
      show (preOf es ||| Nat.shiftLeft 1 e.on).testBit i = _
      rw [shl, Nat.testBit_or, ih, Nat.testBit_two_pow]
      simp only [List.any_cons, hb, Bool.true_and]
      rw [Bool.or_comm]
      congr 1
    | false => simp only [ih, List.any_cons, hb, Bool.false_and, Bool.false_or]

def colM (i : Nat) : List Nat → Nat → Nat
  | [], _ => 0
  | m :: l, j => match bit m i with
    | true => Nat.lor (colM i l (j + 1)) (Nat.shiftLeft 1 j)
    | false => colM i l (j + 1)

theorem colM_bit (i : Nat) : ∀ (l : List Nat) (j k : Nat), bit (colM i l j) k = (decide (j ≤ k) && bit (l.getD (k - j) 0) i)
  | [], j, k => by simp [colM, bit_eq]
  | m :: l, j, k => by
    have ih := colM_bit i l (j + 1) k
    unfold colM
    by_cases hk : k = j
    · subst hk
      have : decide (k + 1 ≤ k) = false := by simp
      rw [this, Bool.false_and] at ih
      cases hb : bit m i with
      | true =>
        simp only
        rw [bit_eq] at ih ⊢
        show (colM i l (k + 1) ||| Nat.shiftLeft 1 k).testBit k = _
        rw [shl, Nat.testBit_or, ih, Nat.testBit_two_pow]
        simp [hb]
      | false =>
        simp only
        rw [ih]
        simp [hb]
    · have e1 : (decide (j ≤ k) && bit ((m :: l).getD (k - j) 0) i) = (decide (j + 1 ≤ k) && bit (l.getD (k - (j + 1)) 0) i) := by
        by_cases hlt : j ≤ k
        · have : k - j = (k - (j + 1)) + 1 := by omega
          rw [this]
          have h1 : decide (j ≤ k) = true := by simpa using hlt
          have h2 : decide (j + 1 ≤ k) = true := by simp; omega
          rw [h1, h2]
          rfl
        · have h1 : decide (j ≤ k) = false := by simpa using hlt
          have h2 : decide (j + 1 ≤ k) = false := by simp; omega
          rw [h1, h2, Bool.false_and, Bool.false_and]
      rw [e1, ← ih]
      cases hb : bit m i with
      | true =>
        simp only
        rw [bit_eq, bit_eq]
        show (colM i l (j + 1) ||| Nat.shiftLeft 1 j).testBit k = _
        rw [shl, Nat.testBit_or, Nat.testBit_two_pow]
        have : decide (j = k) = false := by simp; omega
        rw [this, Bool.or_false]
      | false => rfl

def rowM (a : Nat × Nat) : List (Nat × Nat) → Nat → Nat
  | [], _ => 0
  | b :: l, j => match apM a b with
    | true => Nat.lor (rowM a l (j + 1)) (Nat.shiftLeft 1 j)
    | false => rowM a l (j + 1)

theorem rowM_bit (a : Nat × Nat) : ∀ (l : List (Nat × Nat)) (j k : Nat), bit (rowM a l j) k = true → ∃ b, j ≤ k ∧ l[k - j]? = some b ∧ apM a b = true
  | [], j, k, h => by simp [rowM, bit_eq] at h
  | b :: l, j, k, h => by
    have ih := rowM_bit a l (j + 1) k
    have next : bit (rowM a l (j + 1)) k = true → ∃ b', j ≤ k ∧ (b :: l)[k - j]? = some b' ∧ apM a b' = true := by
      intro h
      obtain ⟨b', h1, h2, h3⟩ := ih h
      refine ⟨b', by omega, ?_, h3⟩
      rw [show k - j = (k - (j + 1)) + 1 from by omega]
      simpa using h2
    unfold rowM at h
    cases hb : apM a b with
    | true =>
      rw [hb] at h
      simp only at h
      rw [bit_eq] at h
      have h : (rowM a l (j + 1) ||| Nat.shiftLeft 1 j).testBit k = true := h
      rw [shl, Nat.testBit_or, Nat.testBit_two_pow, Bool.or_eq_true] at h
      rcases h with h | h
      · exact next (by rw [bit_eq]; exact h)
      · have : j = k := by simpa using h
        subst this
        exact ⟨b, Nat.le_refl _, by simp, hb⟩
    | false =>
      rw [hb] at h
      exact next h

def infOf (ops : Array Oper) : List (Nat × Nat) := ops.toList.map fun o => (lookM ops o, dstM o)

def tbOf (ops : Array Oper) : Tb :=
  ⟨ops.size, ops.toList.map fun o => preOf o.after.toList, (List.range ops.size).map (fun i => colM i (ops.toList.map fun o => preOf o.after.toList) 0), (infOf ops).map (fun a => rowM a (infOf ops) 0)⟩

def readyF (t : Tb) (lm : Nat) : List Nat := (List.range t.n).filter fun i => match bit lm i with | true => false | false => Nat.beq (Nat.land (t.pre.getD i 0) lm) (t.pre.getD i 0)

def Rel (ops : Array Oper) (listed : Array Bool) (lm : Nat) : Prop := listed.size = ops.size ∧ ∀ i, bit lm i = listed.getD i false

theorem pre_at (i : Nat) : (tbOf ops).pre.getD i 0 = ((ops[i]?).map fun o => preOf o.after.toList).getD 0 := by
  unfold tbOf
  simp only [List.getD_eq_getElem?_getD, List.getElem?_map, Array.getElem?_toList]

theorem land_sub {a b : Nat} : Nat.beq (Nat.land a b) a = true ↔ ∀ i, bit a i = true → bit b i = true := by
  rw [Nat.beq_eq]
  show a &&& b = a ↔ _
  constructor
  · intro h i hi
    rw [bit_eq] at hi ⊢
    rw [← h, Nat.testBit_and] at hi
    simp at hi
    exact hi.2
  · intro h
    apply Nat.eq_of_testBit_eq
    intro i
    rw [Nat.testBit_and]
    have := h i
    rw [bit_eq, bit_eq] at this
    cases ha : a.testBit i with
    | false => rfl
    | true => simp [this ha]

theorem readyF_eq {listed : Array Bool} {lm : Nat} (h : Rel ops listed lm) : readyF (tbOf ops) lm = Region.ready .any ops listed := by
  unfold readyF Region.ready
  refine List.filter_congr fun i hi => ?_
  have hlt : i < ops.size := by simpa [tbOf] using hi
  rw [pre_at]
  have ho : ops[i]? = some ops[i] := Array.getElem?_eq_getElem hlt
  have hd : listed.getD i true = listed.getD i false := by
    have : i < listed.size := by rw [h.1]; exact hlt
    simp [this]
  simp only [ho, Option.map_some, Option.getD_some]
  have hb := h.2 i
  rw [← hd] at hb
  rw [hb]
  cases hl : listed.getD i true with
  | true => simp
  | false =>
    simp only [Bool.not_false, Bool.true_and]
    rw [Bool.eq_iff_iff, land_sub]
    simp only [Array.all_eq_true_iff_forall_mem, Bool.or_eq_true, Bool.not_eq_true', h.2]
    constructor
    · intro hx e he
      cases hbe : Region.binds .any e with
      | false => exact .inl rfl
      | true =>
        refine .inr (hx e.on ?_)
        rw [preOf_bit, List.any_eq_true]
        exact ⟨e, by simpa using he, by simp [hbe]⟩
    · intro hx j hj
      rw [preOf_bit, List.any_eq_true] at hj
      obtain ⟨e, he, hj⟩ := hj
      simp only [Bool.and_eq_true, beq_iff_eq] at hj
      rcases hx e (by simpa using he) with h | h
      · rw [hj.1] at h; cases h
      · rw [← hj.2]; exact h

def apF (t : Tb) (x i : Nat) : Bool := bit (t.ap.getD x 0) i

theorem apF_ok {x i : Nat} (h : apF (tbOf ops) x i = true) : apartB ops x i = true := by
  unfold apF tbOf at h
  simp only [List.getD_eq_getElem?_getD, List.getElem?_map] at h
  cases hx : (infOf ops)[x]? with
  | none => rw [hx] at h; simp [bit_eq] at h
  | some a =>
    rw [hx] at h
    simp only [Option.map_some, Option.getD_some] at h
    obtain ⟨b, _, h2, h3⟩ := rowM_bit a _ 0 i h
    unfold infOf at hx h2
    simp only [List.getElem?_map, Array.getElem?_toList, Nat.sub_zero] at hx h2
    cases hox : ops[x]? with
    | none => simp [hox] at hx
    | some ox =>
      cases hoi : ops[i]? with
      | none => simp [hoi] at h2
      | some oi =>
        simp only [hox, hoi, Option.map_some, Option.some.injEq] at hx h2
        subst hx; subst h2
        unfold apartB
        rw [hox, hoi]
        exact apM_ok h3

def freeF (t : Tb) (lm i : Nat) : Bool :=
  Nat.blt i t.n && Nat.beq (Nat.land (Nat.sub (Nat.pow 2 t.n) 1) (Nat.lor (Nat.lor (Nat.shiftLeft 1 i) lm) (Nat.lor (t.dep.getD i 0) (t.ap.getD i 0)))) (Nat.sub (Nat.pow 2 t.n) 1)

theorem freeF_ok {listed : Array Bool} {lm i : Nat} (hr : Rel ops listed lm) (h : freeF (tbOf ops) lm i = true) : freeB ops listed i = true := by
  unfold freeF at h
  rw [Bool.and_eq_true] at h
  have hi : i < ops.size := Nat.le_of_ble_eq_true h.1
  have hsub := land_sub.1 h.2
  unfold freeB
  rw [Array.getElem?_eq_getElem hi]
  simp only [List.all_eq_true, List.mem_range]
  intro j hj
  have h1 := hsub j (by
    rw [bit_eq]
    show (2 ^ (tbOf ops).n - 1).testBit j = true
    rw [Nat.testBit_two_pow_sub_one]
    exact decide_eq_true hj)
  rw [bit_eq] at h1
  have h2 : ((1 <<< i ||| lm) ||| ((tbOf ops).dep.getD i 0 ||| (tbOf ops).ap.getD i 0)).testBit j = true := h1
  simp only [Nat.testBit_or, Bool.or_eq_true] at h2
  have hd : listed.getD j true = listed.getD j false := by
    have : j < listed.size := by rw [hr.1]; exact hj
    simp [this]
  rcases h2 with (h2 | h2) | (h2 | h2)
  · rw [Nat.shiftLeft_eq, Nat.one_mul, Nat.testBit_two_pow] at h2
    have : i = j := by simpa using h2
    simp [this]
  · rw [← bit_eq, hr.2, ← hd] at h2
    simp [h2]
  · rw [← bit_eq] at h2
    unfold tbOf at h2
    simp only [List.getD_eq_getElem?_getD, List.getElem?_map] at h2
    rw [List.getElem?_range hi] at h2
    simp only [Option.map_some, Option.getD_some] at h2
    rw [colM_bit] at h2
    simp only [Bool.and_eq_true, Nat.sub_zero, List.getD_eq_getElem?_getD, List.getElem?_map] at h2
    have h3 := h2.2
    have ho : ops[j]? = some ops[j] := Array.getElem?_eq_getElem hj
    simp only [Array.getElem?_toList, ho, Option.map_some, Option.getD_some] at h3
    rw [preOf_bit] at h3
    simp only [ho, Option.map_some, Option.getD_some, Bool.or_eq_true]
    refine .inr (.inl ?_)
    rw [← Array.any_toList]
    exact h3
  · have h3 : apF (tbOf ops) i j = true := by unfold apF; rw [bit_eq]; exact h2
    have := apF_ok h3
    unfold apartB at this
    have ho : ops[j]? = some ops[j] := Array.getElem?_eq_getElem hj
    rw [Array.getElem?_eq_getElem hi, ho] at this
    simp only [ho, Option.map_some, Option.getD_some, Bool.or_eq_true]
    exact .inr (.inr this)

def memF (i : Nat) : List Nat → Bool
  | [] => false
  | j :: l => match Nat.beq i j with | true => true | false => memF i l
theorem memF_eq (i : Nat) : ∀ l, memF i l = l.contains i
  | [] => rfl
  | j :: l => by
    unfold memF
    cases h : Nat.beq i j with
    | true => have := Nat.eq_of_beq_eq_true h; subst this; simp
    | false =>
      have : i ≠ j := fun he => by subst he; simp at h
      rw [memF_eq i l]
      simp [this]
def wo (x : Nat) : List Nat → List Nat
  | [] => []
  | j :: l => match Nat.beq j x with | true => wo x l | false => j :: wo x l
theorem wo_eq (x : Nat) : ∀ l, wo x l = l.filter (· != x)
  | [] => rfl
  | j :: l => by
    unfold wo
    cases h : Nat.beq j x with
    | true => have := Nat.eq_of_beq_eq_true h; subst this; simp [wo_eq]
    | false =>
      have : j ≠ x := fun he => by subst he; simp at h
      rw [wo_eq x l]
      simp [this]

def dropF (x : Nat) : Plan → Plan
  | .done => .done
  | .u i p => .u i (dropF x p)
  | .q i p => .q i (dropF x p)
  | .l i p => .l i (dropF x p)
  | .rd i p => .rd i (dropF x p)
  | .al i p => match Nat.beq i x with | true => p | false => .al i (dropF x p)
theorem dropF_eq (x : Nat) : ∀ p, dropF x p = Plan.drop x p
  | .done => rfl
  | .u i p => by rw [dropF, Plan.drop, dropF_eq]
  | .q i p => by rw [dropF, Plan.drop, dropF_eq]
  | .l i p => by rw [dropF, Plan.drop, dropF_eq]
  | .rd i p => by rw [dropF, Plan.drop, dropF_eq]
  | .al i p => by
    rw [dropF, Plan.drop]
    cases h : Nat.beq i x with
    | true => rw [if_pos (Nat.eq_of_beq_eq_true h)]
    | false => rw [if_neg (fun he => by subst he; simp at h), dropF_eq]

def earlyF (t : Tb) (x : Nat) : Plan → Bool
  | .done => false
  | .u i p => apF t x i && earlyF t x p
  | .q i p => apF t x i && earlyF t x p
  | .l i p => apF t x i && earlyF t x p
  | .rd i p => !Nat.beq i x && apF t x i && earlyF t x p
  | .al i p => match Nat.beq i x with | true => true | false => apF t x i && earlyF t x p
theorem earlyF_ok {x : Nat} : ∀ p, earlyF (tbOf ops) x p = true → earlyB ops x p = true
  | .done, h => h
  | .u i p, h => by simp only [earlyF, earlyB, Bool.and_eq_true] at *; exact ⟨apF_ok h.1, earlyF_ok p h.2⟩
  | .q i p, h => by simp only [earlyF, earlyB, Bool.and_eq_true] at *; exact ⟨apF_ok h.1, earlyF_ok p h.2⟩
  | .l i p, h => by simp only [earlyF, earlyB, Bool.and_eq_true] at *; exact ⟨apF_ok h.1, earlyF_ok p h.2⟩
  | .rd i p, h => by
    simp only [earlyF, earlyB, Bool.and_eq_true, bne_iff_ne, ne_eq, Bool.not_eq_true'] at *
    exact ⟨⟨fun he => by subst he; simp at h, apF_ok h.1.2⟩, earlyF_ok p h.2⟩
  | .al i p, h => by
    unfold earlyF at h
    unfold earlyB
    cases hb : Nat.beq i x with
    | true => rw [if_pos (Nat.eq_of_beq_eq_true hb)]
    | false =>
      rw [hb] at h
      simp only [Bool.and_eq_true] at h
      rw [if_neg (fun he => by subst he; simp at hb), Bool.and_eq_true]
      exact ⟨apF_ok h.1, earlyF_ok p h.2⟩

def allF (f : Nat → Bool) : List Nat → Bool
  | [] => true
  | x :: l => match f x with | true => allF f l | false => false
theorem allF_eq (f : Nat → Bool) : ∀ l, allF f l = l.all f
  | [] => rfl
  | x :: l => by unfold allF; cases h : f x <;> simp [h, allF_eq]

def setF (lm i : Nat) : Nat := Nat.lor lm (Nat.shiftLeft 1 i)
theorem Rel.set {listed : Array Bool} {lm i : Nat} (h : Rel ops listed lm) (hi : i < ops.size) : Rel ops (listed.setIfInBounds i true) (setF lm i) := by
  refine ⟨by simpa using h.1, fun j => ?_⟩
  rw [bit_eq]
  show (lm ||| Nat.shiftLeft 1 i).testBit j = _
  rw [shl, Nat.testBit_or, ← bit_eq, h.2, Nat.testBit_two_pow]
  by_cases hij : i = j
  · subst hij
    have : i < listed.size := by rw [h.1]; exact hi
    simp [this]
  · rw [getD_set_ne false hij]
    simp [hij]

def planOkF (t : Tb) (loud : List Nat) : Nat → Nat → List Nat → Nat → Plan → Bool
  | 0, _, _, _, _ => false
  | _ + 1, n, _, lm, .done => Nat.beq n 0 && (readyF t lm).isEmpty
  | _ + 1, 0, _, _, _ => false
  | f + 1, n + 1, dc, lm, .q i p => memF i (readyF t lm) && !memF i loud && freeF t lm i && allF (fun x => apF t x i) dc && planOkF t loud f n dc (setF lm i) p
  | f + 1, n + 1, dc, lm, .u i p => memF i (readyF t lm) && !memF i loud && freeF t lm i && allF (fun x => apF t x i) dc && planOkF t loud f n dc (setF lm i) p
  | f + 1, n + 1, dc, lm, .rd i p => memF i loud && !memF i dc && planOkF t loud f (n + 1) (i :: dc) lm p
  | f + 1, n + 1, dc, lm, .l i p => memF i (readyF t lm) && memF i loud && allF (fun x => apF t x i) dc && planOkF t loud f n dc (setF lm i) p &&
      allF (fun x => match Nat.beq x i with | true => true | false => memF x dc && memF x loud && allF (fun y => apF t y x) (wo x dc) && earlyF t x (.l i p) && planOkF t loud f n (wo x dc) (setF lm x) (.l i (dropF x p))) (readyF t lm)
  | f + 1, n + 1, dc, lm, .al i p => memF i (readyF t lm) && memF i loud && memF i dc && allF (fun x => apF t x i) (wo i dc) && planOkF t loud f n (wo i dc) (setF lm i) p &&
      allF (fun x => match Nat.beq x i with | true => true | false => memF x dc && memF x loud && allF (fun y => apF t y x) (wo x dc) && earlyF t x (.al i p) && planOkF t loud f n (wo x dc) (setF lm x) (.al i (dropF x p))) (readyF t lm)

theorem mem_lt {listed : Array Bool} {i : Nat} (h : i ∈ Region.ready .any ops listed) : i < ops.size := by
  obtain ⟨_, o, ho, _⟩ := mem_ready.1 h
  exact (Array.getElem?_eq_some_iff.1 ho).1

theorem planOkF_ok {loud : List Nat} : ∀ (f n : Nat) (dc : List Nat) (lm : Nat) (listed : Array Bool) (p : Plan), Rel ops listed lm → planOkF (tbOf ops) loud f n dc lm p = true → planOk ops loud.contains f n dc listed p = true := by
  intro f
  induction f with
  | zero => intro n dc lm listed p hr h; simp [planOkF] at h
  | succ f ih =>
    intro n dc lm listed p hr h
    have apAll : ∀ (i : Nat) (l : List Nat), allF (fun x => apF (tbOf ops) x i) l = true → l.all (fun x => apartB ops x i) = true := by
      intro i l hl
      rw [allF_eq, List.all_eq_true] at hl
      rw [List.all_eq_true]
      exact fun x hx => apF_ok (hl x hx)
    cases p with
    | done =>
      simp only [planOkF, Bool.and_eq_true] at h
      simp only [planOk, Bool.and_eq_true, beq_iff_eq]
      rw [readyF_eq hr] at h
      exact ⟨Nat.eq_of_beq_eq_true h.1, h.2⟩
    | q i p =>
      cases n with
      | zero => simp [planOkF] at h
      | succ n =>
        simp only [planOkF, Bool.and_eq_true, memF_eq, readyF_eq hr] at h
        simp only [planOk, Bool.and_eq_true]
        have hi := mem_lt (List.contains_iff_mem.1 h.1.1.1.1)
        exact ⟨⟨⟨h.1.1.1, freeF_ok hr h.1.1.2⟩, apAll _ _ h.1.2⟩, ih _ _ _ _ _ (hr.set hi) h.2⟩
    | u i p =>
      cases n with
      | zero => simp [planOkF] at h
      | succ n =>
        simp only [planOkF, Bool.and_eq_true, memF_eq, readyF_eq hr] at h
        simp only [planOk, Bool.and_eq_true]
        have hi := mem_lt (List.contains_iff_mem.1 h.1.1.1.1)
        exact ⟨⟨⟨h.1.1.1, freeF_ok hr h.1.1.2⟩, apAll _ _ h.1.2⟩, ih _ _ _ _ _ (hr.set hi) h.2⟩
    | rd i p =>
      cases n with
      | zero => simp [planOkF] at h
      | succ n =>
        simp only [planOkF, Bool.and_eq_true, memF_eq] at h
        simp only [planOk, Bool.and_eq_true]
        exact ⟨h.1, ih _ _ _ _ _ hr h.2⟩
    | l i p =>
      cases n with
      | zero => simp [planOkF] at h
      | succ n =>
        simp only [planOkF, Bool.and_eq_true, memF_eq, readyF_eq hr, wo_eq, dropF_eq, allF_eq, List.all_eq_true] at h
        simp only [planOk, Bool.and_eq_true, List.all_eq_true]
        obtain ⟨⟨⟨⟨h1, h2⟩, h3⟩, h4⟩, h5⟩ := h
        have hi := mem_lt (List.contains_iff_mem.1 h1)
        refine ⟨⟨⟨⟨h1, h2⟩, fun x hx => apF_ok (h3 x hx)⟩, ih _ _ _ _ _ (hr.set hi) h4⟩, fun x hx => ?_⟩
        have h6 := h5 x hx
        cases hb : Nat.beq x i with
        | true => simp [Nat.eq_of_beq_eq_true hb]
        | false =>
          rw [hb] at h6
          simp only [Bool.and_eq_true, List.all_eq_true] at h6
          simp only [Bool.or_eq_true, Bool.and_eq_true, List.all_eq_true]
          exact .inr ⟨⟨⟨h6.1.1.1, fun y hy => apF_ok (h6.1.1.2 y hy)⟩, earlyF_ok _ h6.1.2⟩, ih _ _ _ _ _ (hr.set (mem_lt hx)) h6.2⟩
    | al i p =>
      cases n with
      | zero => simp [planOkF] at h
      | succ n =>
        simp only [planOkF, Bool.and_eq_true, memF_eq, readyF_eq hr, wo_eq, dropF_eq, allF_eq, List.all_eq_true] at h
        simp only [planOk, Bool.and_eq_true, List.all_eq_true]
        obtain ⟨⟨⟨⟨⟨h1, h2⟩, h2'⟩, h3⟩, h4⟩, h5⟩ := h
        have hi := mem_lt (List.contains_iff_mem.1 h1)
        refine ⟨⟨⟨⟨⟨h1, h2⟩, h2'⟩, fun x hx => apF_ok (h3 x hx)⟩, ih _ _ _ _ _ (hr.set hi) h4⟩, fun x hx => ?_⟩
        have h6 := h5 x hx
        cases hb : Nat.beq x i with
        | true => simp [Nat.eq_of_beq_eq_true hb]
        | false =>
          rw [hb] at h6
          simp only [Bool.and_eq_true, List.all_eq_true] at h6
          simp only [Bool.or_eq_true, Bool.and_eq_true, List.all_eq_true]
          exact .inr ⟨⟨⟨h6.1.1.1, fun y hy => apF_ok (h6.1.1.2 y hy)⟩, earlyF_ok _ h6.1.2⟩, ih _ _ _ _ _ (hr.set (mem_lt hx)) h6.2⟩

def drawF (ops : Array Oper) (t : Tb) (p : Plan) : Bool := noSel ops && planOkF t p.louds (2 * t.n + 2) t.n [] 0 p

theorem drawF_ok {p : Plan} (h : drawF ops (tbOf ops) p = true) : drawOk ops p = true := by
  unfold drawF at h
  unfold drawOk
  rw [Bool.and_eq_true] at *
  refine ⟨h.1, planOkF_ok _ _ _ 0 _ _ ⟨by simp, fun i => ?_⟩ h.2⟩
  simp only [bit_eq, Nat.zero_testBit, Array.getD_eq_getD_getElem?]
  rw [Array.getElem?_replicate]
  split <;> rfl
end Go.E
