import Derived.Test.YtoeboeihendiiaaGreatDoorX6
set_option linter.all false
namespace Go.X
variable {P : Program} {σ : Sig} {n : Fm} {ops : Array Oper} {K : Env → Hp → Prop} {ρ : Env} {L L' : Hp} {dst : Option Tmp} {ty : TypeId} {pos : String} {after : Array Edge} {guard : Option (Nat × Bool)} {rest : List Oper} {Q : Exit → Env → Hp → Prop}

/-- the slots that count -/
def Agrees (ρ : Env) : List (Nat × Value) → Prop
  | [] => True
  | (t, v) :: l => ρ t = v ∧ Agrees ρ l

def live (J : Env) : List (Nat × Value) → Env
  | [] => J
  | (t, v) :: l => upd (live J l) (some t) v

theorem upd_self {t : Nat} {v : Value} (h : ρ t = v) : upd ρ (some t) v = ρ := by
  subst h
  funext i
  simp only [upd]
  split
  · rename_i h; rw [Nat.eq_of_beq_eq_true h]
  · rfl

theorem live_self {l : List (Nat × Value)} (h : Agrees ρ l) : live ρ l = ρ := by
  induction l with
  | nil => rfl
  | cons p l ih =>
    obtain ⟨t, v⟩ := p
    rw [live, ih h.2]
    exact upd_self h.1

theorem XF.of_live {c : Code} (l : List (Nat × Value)) (ha : Agrees ρ l) (h : ∀ J, XF P σ n c Q (live J l) L) : XF P σ n c Q ρ L := by
  rw [← live_self ha]; exact h ρ

/-- a join: behind x the slots l count, L1 is owned -/
theorem XF.seqA {x y : Code} {ι : Type} (lv : ι → List (Nat × Value)) (hp : ι → Hp) (ok : ι → Prop)
    (hx : XF P σ n x (thenF (fun ρ' L' => ∃ s R, ok s ∧ Agrees ρ' (lv s) ∧ L'.Perm (hp s ++ R)) Q) ρ L)
    (hy : ∀ s J, ok s → XF P σ n y Q (live J (lv s)) (hp s)) : XF P σ n (x.seq y) Q ρ L := by
  refine XF.seq fun K hK => XF.mono hx ?_
  intro e ρ' L' h
  cases e with
  | normal => obtain ⟨s, R, ho, ha, hp⟩ := h; exact hK _ _ (XF.wk R hp (XF.of_live _ ha fun J => hy s J ho))
  | _ => exact h

theorem XF.loopA {c : Code} {ι : Type} (lv : ι → List (Nat × Value)) (hp : ι → Hp) (ok : ι → Prop) (ms : ι → Nat) (s0 : ι) (R : Hp) (h0 : ok s0) (ha : Agrees ρ (lv s0)) (hL : L.Perm (hp s0 ++ R))
    (round : ∀ s J, ok s → XF P σ n c (thenF (fun ρ' L' => ∃ s' R, ok s' ∧ Agrees ρ' (lv s') ∧ L'.Perm (hp s' ++ R) ∧ ms s' < ms s) Q) (live J (lv s)) (hp s)) :
    XF P σ n (.loop c) Q ρ L := by
  refine XF.loop (fun m ρ' L' => ∃ s R, ok s ∧ Agrees ρ' (lv s) ∧ L'.Perm (hp s ++ R) ∧ ms s = m) (ms s0) ⟨s0, R, h0, ha, hL, rfl⟩ ?_
  rintro m ρ' L' ⟨s, R, hs, ha', hL', rfl⟩
  refine XF.wk R hL' (XF.of_live _ ha' fun J => XF.mono (round s J hs) ?_)
  intro e ρ'' L'' h
  cases e with
  | normal => obtain ⟨s', R', h1, h2, h3, h4⟩ := h; exact ⟨ms s', h4, s', R', h1, h2, h3, rfl⟩
  | _ => exact h

/-! guarded operations, their test decided -/
theorem XL.gy {o : Oper} {j d : Nat} {want b : Bool} (hok : okOp n.n ops o = true) (hg : o.guard = some (j, want)) (hd : (ops[j]?).bind (·.dst) = some d) (hb : ρ d = .bool b) (hw : b = want)
    (h : xop P σ o ρ (fun v L => Wk (XL P σ n ops K rest (upd ρ o.dst v)) L) L) : XL P σ n ops K (o :: rest) ρ L :=
  XL.opg hok hg hd hb (fun _ => h) (fun h => absurd hw h)
theorem XL.gn {o : Oper} {j d : Nat} {want b : Bool} (hok : okOp n.n ops o = true) (hg : o.guard = some (j, want)) (hd : (ops[j]?).bind (·.dst) = some d) (hb : ρ d = .bool b) (hw : b ≠ want)
    (h : XL P σ n ops K rest (upd ρ o.dst undef) L) : XL P σ n ops K (o :: rest) ρ L :=
  XL.opg hok hg hd hb (fun h => absurd h hw) (fun _ => h)
theorem XL.gyl {op : Op} {j d : Nat} {want b : Bool} {v : Value} (hok : okOp n.n ops ⟨dst, op, ty, pos, after, some (j, want)⟩ = true) (hd : (ops[j]?).bind (·.dst) = some d) (hb : ρ d = .bool b) (hw : b = want)
    (hy : Yl P σ ⟨dst, op, ty, pos, after, some (j, want)⟩ ρ v L) (h : XL P σ n ops K rest (upd ρ dst v) L) : XL P σ n ops K (⟨dst, op, ty, pos, after, some (j, want)⟩ :: rest) ρ L :=
  XL.gy hok rfl hd hb hw (xop_of_Yl hy (Wk.intro h))
theorem XL.gskip {op : Op} {j d : Nat} {want b : Bool} (hok : okOp n.n ops ⟨dst, op, ty, pos, after, some (j, want)⟩ = true) (hd : (ops[j]?).bind (·.dst) = some d) (hb : ρ d = .bool b) (hw : b ≠ want)
    (h : XL P σ n ops K rest (upd ρ dst undef) L) : XL P σ n ops K (⟨dst, op, ty, pos, after, some (j, want)⟩ :: rest) ρ L := XL.gn hok rfl hd hb hw h
theorem XL.gx {op : Op} {j d : Nat} {want b : Bool} (hok : okOp n.n ops ⟨dst, op, ty, pos, after, some (j, want)⟩ = true) (hd : (ops[j]?).bind (·.dst) = some d) (hb : ρ d = .bool b) (hw : b = want)
    (h : xop P σ ⟨dst, op, ty, pos, after, some (j, want)⟩ ρ (fun v L => Wk (XL P σ n ops K rest (upd ρ dst v)) L) L) : XL P σ n ops K (⟨dst, op, ty, pos, after, some (j, want)⟩ :: rest) ρ L := XL.gy hok rfl hd hb hw h
theorem XL.gld {j d : Nat} {want b : Bool} {t : TypeId} {x : Operand} {a : Addr} {v : Value} (hok : okOp n.n ops ⟨dst, .load t x, ty, pos, after, some (j, want)⟩ = true) (hd : (ops[j]?).bind (·.dst) = some d) (hb : ρ d = .bool b) (hw : b = want)
    (ht : isAggT P t = some false) (hx : ev ρ x = .pointer (some a)) (hr : Rd σ L a v) (h : XL P σ n ops K rest (upd ρ dst v) L) : XL P σ n ops K (⟨dst, .load t x, ty, pos, after, some (j, want)⟩ :: rest) ρ L :=
  XL.gyl hok hd hb hw (Yl.load_cell ht hx hr) h
theorem XL.gldN {j d : Nat} {want b : Bool} {t : TypeId} {x : Operand} {a : Addr} {m : Nat} {vs : Array Value} (hok : okOp n.n ops ⟨dst, .load t x, ty, pos, after, some (j, want)⟩ = true) (hd : (ops[j]?).bind (·.dst) = some d) (hb : ρ d = .bool b) (hw : b = want)
    (ht : isAggT P t = some true) (hm : szT P t = some m) (hx : ev ρ x = .pointer (some a)) (hr : RdN σ L a m vs) (h : XL P σ n ops K rest (upd ρ dst (.agg vs)) L) : XL P σ n ops K (⟨dst, .load t x, ty, pos, after, some (j, want)⟩ :: rest) ρ L :=
  XL.gyl hok hd hb hw (Yl.load_agg ht hm hx hr) h
theorem XD.gul {i : Nat} {p : Plan} {ac : Al} {lo : List Nat} {pd : Pend} {op : Op} {j d : Nat} {want b : Bool} {v : Value} (hi : ops[i]? = some ⟨dst, op, ty, pos, after, some (j, want)⟩) (hok : okOp n.n ops ⟨dst, op, ty, pos, after, some (j, want)⟩ = true)
    (hd : (ops[j]?).bind (·.dst) = some d) (hb : ρ d = .bool b) (hw : b = want)
    (hy : ∀ L, Yl P σ ⟨dst, op, ty, pos, after, some (j, want)⟩ ρ v L) (h : XD P σ n ops K p ac lo pd (upd ρ dst v) L) : XD P σ n ops K (.u i p) ac lo pd ρ L :=
  XD.ug hi hok rfl hd hb (fun _ => ⟨hy, h⟩) (fun h => absurd hw h)
theorem XD.guskip {i : Nat} {p : Plan} {ac : Al} {lo : List Nat} {pd : Pend} {op : Op} {j d : Nat} {want b : Bool} (hi : ops[i]? = some ⟨dst, op, ty, pos, after, some (j, want)⟩) (hok : okOp n.n ops ⟨dst, op, ty, pos, after, some (j, want)⟩ = true)
    (hd : (ops[j]?).bind (·.dst) = some d) (hb : ρ d = .bool b) (hw : b ≠ want)
    (h : XD P σ n ops K p ac lo pd (upd ρ dst undef) L) : XD P σ n ops K (.u i p) ac lo pd ρ L :=
  XD.ug (v := undef) hi hok rfl hd hb (fun h => absurd h hw) (fun _ => h)
theorem XD.gld {i : Nat} {p : Plan} {ac : Al} {lo : List Nat} {pd : Pend} {j d : Nat} {want b : Bool} {t : TypeId} {x : Operand} {a : Addr} {v : Value} (hi : ops[i]? = some ⟨dst, .load t x, ty, pos, after, some (j, want)⟩)
    (hok : okOp n.n ops ⟨dst, .load t x, ty, pos, after, some (j, want)⟩ = true) (hd : (ops[j]?).bind (·.dst) = some d) (hb : ρ d = .bool b) (hw : b = want) (ht : isAggT P t = some false) (hx : ev ρ x = .pointer (some a)) (hr : Rd σ L a v)
    (h : XD P σ n ops K p ac lo ((i, fun L => Rd σ L a v) :: pd) (upd ρ dst v) L) : XD P σ n ops K (.q i p) ac lo pd ρ L :=
  XD.qg _ hi hok rfl hd hb (fun _ _ hL => Yl.load_cell ht hx hL) (fun _ => ⟨hr, h⟩) (fun h => absurd hw h)
theorem XD.gldN {i : Nat} {p : Plan} {ac : Al} {lo : List Nat} {pd : Pend} {j d : Nat} {want b : Bool} {t : TypeId} {x : Operand} {a : Addr} {m : Nat} {vs : Array Value} (hi : ops[i]? = some ⟨dst, .load t x, ty, pos, after, some (j, want)⟩)
    (hok : okOp n.n ops ⟨dst, .load t x, ty, pos, after, some (j, want)⟩ = true) (hd : (ops[j]?).bind (·.dst) = some d) (hb : ρ d = .bool b) (hw : b = want) (ht : isAggT P t = some true) (hm : szT P t = some m) (hx : ev ρ x = .pointer (some a)) (hr : RdN σ L a m vs)
    (h : XD P σ n ops K p ac lo ((i, fun L => RdN σ L a m vs) :: pd) (upd ρ dst (.agg vs)) L) : XD P σ n ops K (.q i p) ac lo pd ρ L :=
  XD.qg _ hi hok rfl hd hb (fun _ _ hL => Yl.load_agg ht hm hx hL) (fun _ => ⟨hr, h⟩) (fun h => absurd hw h)
theorem XD.gqskip {i : Nat} {p : Plan} {ac : Al} {lo : List Nat} {pd : Pend} {op : Op} {j d : Nat} {want b : Bool} (hi : ops[i]? = some ⟨dst, op, ty, pos, after, some (j, want)⟩) (hok : okOp n.n ops ⟨dst, op, ty, pos, after, some (j, want)⟩ = true)
    (hd : (ops[j]?).bind (·.dst) = some d) (hb : ρ d = .bool b) (hw : b ≠ want)
    (h : XD P σ n ops K p ac lo pd (upd ρ dst undef) L) : XD P σ n ops K (.q i p) ac lo pd ρ L :=
  XD.qg (v := undef) (fun _ => True) hi hok rfl hd hb (fun h => absurd h hw) (fun h => absurd h hw) (fun _ => h)
theorem XD.gx {i : Nat} {p : Plan} {ac : Al} {lo : List Nat} {pd : Pend} {op : Op} {j d : Nat} {want b : Bool} (hi : ops[i]? = some ⟨dst, op, ty, pos, after, some (j, want)⟩) (hok : okOp n.n ops ⟨dst, op, ty, pos, after, some (j, want)⟩ = true)
    (hd : (ops[j]?).bind (·.dst) = some d) (hb : ρ d = .bool b) (hw : b = want)
    (h : xop P σ ⟨dst, op, ty, pos, after, some (j, want)⟩ ρ (fun v L => Wk (fun L => recheck ops (i :: lo) L pd ∧ XD P σ n ops K p ac (i :: lo) pd (upd ρ dst v) L) L) L) : XD P σ n ops K (.l i p) ac lo pd ρ L :=
  XD.lg hi hok rfl hd hb (fun _ => h) (fun h => absurd hw h)
theorem XD.gxskip {i : Nat} {p : Plan} {ac : Al} {lo : List Nat} {pd : Pend} {op : Op} {j d : Nat} {want b : Bool} (hi : ops[i]? = some ⟨dst, op, ty, pos, after, some (j, want)⟩) (hok : okOp n.n ops ⟨dst, op, ty, pos, after, some (j, want)⟩ = true)
    (hd : (ops[j]?).bind (·.dst) = some d) (hb : ρ d = .bool b) (hw : b ≠ want)
    (h : recheck ops (i :: lo) L pd ∧ XD P σ n ops K p ac (i :: lo) pd (upd ρ dst undef) L) : XD P σ n ops K (.l i p) ac lo pd ρ L :=
  XD.lg hi hok rfl hd hb (fun h => absurd h hw) (fun _ => h)
theorem Yl.py {c a b : Operand} {t : Bool} {v : Value} (hc : ev ρ c = .bool t) (ht : t = true) (hv : ev ρ a = v) : Yl P σ ⟨dst, .pick c a b, ty, pos, after, guard⟩ ρ v L := by
  have := Yl.pick (P := P) (σ := σ) (L := L) (dst := dst) (ty := ty) (pos := pos) (after := after) (guard := guard) (a := a) (b := b) hc
  rw [ht, if_pos rfl, hv] at this
  exact this
theorem Yl.pn {c a b : Operand} {t : Bool} {v : Value} (hc : ev ρ c = .bool t) (ht : t = false) (hv : ev ρ b = v) : Yl P σ ⟨dst, .pick c a b, ty, pos, after, guard⟩ ρ v L := by
  have := Yl.pick (P := P) (σ := σ) (L := L) (dst := dst) (ty := ty) (pos := pos) (after := after) (guard := guard) (a := a) (b := b) hc
  rw [ht, if_neg (by simp), hv] at this
  exact this
end Go.X
namespace Go.X
theorem XF.seqB {P : Program} {σ : Sig} {n : Fm} {ρ : Env} {L : Hp} {Q : Exit → Env → Hp → Prop} {x y : Code} (l : List (Nat × Value)) (L1 : Hp)
    (hx : XF P σ n x (thenF (fun ρ' L' => Agrees ρ' l ∧ L'.Perm L1) Q) ρ L)
    (hy : ∀ J, XF P σ n y Q (live J l) L1) : XF P σ n (x.seq y) Q ρ L := by
  refine XF.seq fun K hK => XF.mono hx ?_
  intro e ρ' L' h
  cases e with
  | normal => exact hK _ _ (XF.wk [] (by simpa using h.2) (XF.of_live _ h.1 hy))
  | _ => exact h
end Go.X
