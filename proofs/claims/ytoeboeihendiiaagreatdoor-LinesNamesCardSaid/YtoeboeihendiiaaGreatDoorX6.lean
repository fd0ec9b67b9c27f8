import Derived.Test.YtoeboeihendiiaaGreatDoorX5
set_option linter.all false
namespace Go.X
attribute [local semireducible] Yl XL XD XF xop
variable {P : Program} {σ : Sig} {n : Fm} {ops : Array Oper} {K : Env → Hp → Prop} {ρ : Env} {L L' : Hp} {dst : Option Tmp} {ty : TypeId} {pos : String} {after : Array Edge} {guard : Option (Nat × Bool)} {rest : List Oper}

theorem XL.move {x : Operand} (hok : okOp n.n ops ⟨dst, .move x, ty, pos, after, none⟩ = true) (h : XL P σ n ops K rest (upd ρ dst (ev ρ x)) L) : XL P σ n ops K (⟨dst, .move x, ty, pos, after, none⟩ :: rest) ρ L :=
  XL.op hok rfl (Wk.intro h)
theorem XL.assign {x : Operand} (hok : okOp n.n ops ⟨dst, .assign x, ty, pos, after, none⟩ = true) (h : XL P σ n ops K rest (upd ρ dst (ev ρ x)) L) : XL P σ n ops K (⟨dst, .assign x, ty, pos, after, none⟩ :: rest) ρ L :=
  XL.op hok rfl (Wk.intro h)

theorem Yl.move {x : Operand} : Yl P σ ⟨dst, .move x, ty, pos, after, guard⟩ ρ (ev ρ x) L := rfl
theorem Yl.assign {x : Operand} : Yl P σ ⟨dst, .assign x, ty, pos, after, guard⟩ ρ (ev ρ x) L := rfl
theorem Yl.nilCheck {x : Operand} {v : Value} (hx : ev ρ x = v) (hn : nilOk v = true) : Yl P σ ⟨dst, .nilCheck x, ty, pos, after, guard⟩ ρ v L := by
  subst hx
  unfold Yl
  simp only [execOp]
  generalize ev ρ x = v at *
  match v, hn with
  | .pointer (some a), _ => rfl
  | .func (.func f) a b, _ => rfl
  | .func (.methodOf f n) a b, _ => rfl
  | .func (.via _ _ _ _) a b, _ => rfl
  | .func (.yield _) a b, _ => rfl
  | .bool _, _ | .int _ _, _ | .float _ _, _ | .complex _ _ _, _ | .string _, _ | .slice _ _ _, _ | .map _, _ | .chan _, _ | .iface _ _, _ | .agg _, _ | .tuple _, _ => rfl

/-- what yields, comes to it -/
theorem xop_of_Yl {o : Oper} {v : Value} {K : Value → Hp → Prop} (hy : Yl P σ o ρ v L) (h : K v L) : xop P σ o ρ K L := by
  refine xq_xwp _ (fun nx hn => ?_) hy
  cases nx <;> simp only [isV] at hn <;> subst hn <;> exact h

theorem XL.y {o : Oper} {v : Value} (hok : okOp n.n ops o = true) (hg : o.guard = none) (hy : Yl P σ o ρ v L) (h : XL P σ n ops K rest (upd ρ o.dst v) L) : XL P σ n ops K (o :: rest) ρ L :=
  XL.op hok hg (xop_of_Yl hy (Wk.intro h))

theorem xq_underlying_eq {t : TypeId} {Q : TypeDesc → Prop} : xq P σ (underlying t) Q L = (match P.underlying t with | some d => Q d | none => False) := by
  unfold underlying
  rw [xq_bind]
  simp only [program, xq]
  cases P.underlying t <;> rfl
theorem xq_sizeOf_eq {t : TypeId} {Q : Nat → Prop} : xq P σ (sizeOf t) Q L = (match szT P t with | some d => Q d | none => False) := by
  unfold sizeOf typeInfo szT
  rw [xq_bind, xq_bind]
  simp only [program, xq]
  cases P.info? t <;> rfl
theorem xq_pure_eq {α : Type} {a : α} {Q : α → Prop} : xq P σ (pure a) Q L = Q a := rfl
theorem xq_program_eq {Q : Program → Prop} : xq P σ program Q L = Q P := rfl

theorem Yl.fieldAddr {s : TypeId} {x : Operand} {i off : Nat} {a : Addr} (hf : fldOff P s i = some off) (hx : ev ρ x = .pointer (some a)) :
    Yl P σ ⟨dst, .fieldAddr s x i, ty, pos, after, guard⟩ ρ (.pointer (some (a.add off))) L := by
  unfold Yl
  simp only [execOp, xq_bind, Instr.fieldAt, Instr.sureAddr, hx, xq_underlying_eq]
  unfold fldOff at hf
  cases hu : P.underlying s with
  | none => simp [hu] at hf
  | some d =>
    cases d <;> simp only [hu] at hf <;> first | (cases hf; done) | skip
    rename_i fs
    cases hfi : fs[i]? with
    | none => simp [hfi] at hf
    | some f =>
      simp only [hfi] at hf
      cases hz : szT P f.type with
      | none => simp [hz] at hf
      | some n =>
        simp only [hz, Option.getD_some] at hf
        split at hf
        · cases hf
        · rename_i hne
          simp only [Option.some.injEq] at hf
          subst hf
          simp only [hfi, pure_bind, xq_bind, fieldPlace, xq_sizeOf_eq, hz, xq_pure_eq]
          rw [if_neg hne]
          rfl

theorem Yl.fa {s : TypeId} {x : Operand} {i off b o : Nat} (hf : fldOff P s i = some off) (hx : ev ρ x = .pointer (some ⟨b, o, none⟩)) :
    Yl P σ ⟨dst, .fieldAddr s x i, ty, pos, after, guard⟩ ρ (.pointer (some ⟨b, o + off, none⟩)) L := by
  have := Yl.fieldAddr (σ := σ) (L := L) (dst := dst) (ty := ty) (pos := pos) (after := after) (guard := guard) hf hx
  rwa [add_mk] at this

theorem Yl.indexAddr_slice {t e : TypeId} {n : Nat} {x y : Operand} {b o len cap : Nat} {k : IntKind} {i : Int} (ht : elemOfSl P t = some e) (hn : szT P e = some n)
    (hx : ev ρ x = .slice (some ⟨b, o, none⟩) len cap) (hy : ev ρ y = .int k i) (h0 : 0 ≤ i) (h1 : i < len) :
    Yl P σ ⟨dst, .indexAddr t x y, ty, pos, after, guard⟩ ρ (.pointer (some ⟨b, o + i.toNat * n, none⟩)) L := by
  have hu := elemOfSl_spec ht
  unfold Yl
  simp only [execOp, xq_bind, Instr.indexAt, hx, hy, asIntOf, pure_bind, xq_underlying_eq, hu]
  simp only [xq_pure_eq, h0, h1, and_self, if_true, xq_bind, xq_sizeOf_eq, hn, isV, add_mk]

theorem Yl.indexAddr_arr {t e : TypeId} {n m : Nat} {x y : Operand} {b o : Nat} {k : IntKind} {i : Int} (ht : arrT P t = some (m, e)) (hn : szT P e = some n)
    (hx : ev ρ x = .pointer (some ⟨b, o, none⟩)) (hy : ev ρ y = .int k i) (h0 : 0 ≤ i) (h1 : i < m) :
    Yl P σ ⟨dst, .indexAddr t x y, ty, pos, after, guard⟩ ρ (.pointer (some ⟨b, o + i.toNat * n, none⟩)) L := by
  have hu := arrT_spec ht
  unfold Yl
  simp only [execOp, xq_bind, Instr.indexAt, hx, hy, asIntOf, pure_bind, xq_underlying_eq, hu, Instr.sureAddr]
  simp only [xq_pure_eq, h0, h1, and_self, if_true, xq_bind, xq_sizeOf_eq, hn, isV, add_mk]

theorem Yl.pick {c a b : Operand} {t : Bool} (hc : ev ρ c = .bool t) : Yl P σ ⟨dst, .pick c a b, ty, pos, after, guard⟩ ρ (if t then ev ρ a else ev ρ b) L := by
  unfold Yl
  simp only [execOp, hc, asBool, pure_bind]
  rfl

theorem Yl.bin_int {op : BinOp} {t u : TypeId} {x y : Operand} {k : IntKind} {a b : Int} {v : Value} (hx : ev ρ x = .int k a) (hy : ev ρ y = .int k b)
    (hv : binOp op t (.int k a) (.int k b) = pure v) : Yl P σ ⟨dst, .binOp op t x y u, ty, pos, after, guard⟩ ρ v L := by
  unfold Yl
  simp only [execOp, hx, hy, xq_bind]
  have hg : ∀ Q, xq P σ (eqGuard op t x y (.int k a) (.int k b)) Q L = Q () := by
    intro Q
    unfold eqGuard
    split <;> rfl
  rw [hg, hv]
  rfl

section
variable {k : IntKind} {a b : Int} {t : TypeId}
theorem b_add : binOp .add t (.int k a) (.int k b) = pure (.int k (k.wrap (a + b))) := by simp [binOp, Op.intArith]
theorem b_sub : binOp .sub t (.int k a) (.int k b) = pure (.int k (k.wrap (a - b))) := by simp [binOp, Op.intArith]
theorem b_mul : binOp .mul t (.int k a) (.int k b) = pure (.int k (k.wrap (a * b))) := by simp [binOp, Op.intArith]
theorem b_eql : binOp .eql t (.int k a) (.int k b) = pure (.bool (a == b)) := by simp [binOp, Op.intCmp]
theorem b_neq : binOp .neq t (.int k a) (.int k b) = pure (.bool (a != b)) := by simp [binOp, Op.intCmp]
theorem b_lss : binOp .lss t (.int k a) (.int k b) = pure (.bool (decide (a < b))) := by simp [binOp, Op.intCmp]
theorem b_leq : binOp .leq t (.int k a) (.int k b) = pure (.bool (decide (a ≤ b))) := by simp [binOp, Op.intCmp]
theorem b_gtr : binOp .gtr t (.int k a) (.int k b) = pure (.bool (decide (a > b))) := by simp [binOp, Op.intCmp]
theorem b_geq : binOp .geq t (.int k a) (.int k b) = pure (.bool (decide (a ≥ b))) := by simp [binOp, Op.intCmp]
theorem b_quo (h : b ≠ 0) : binOp .quo t (.int k a) (.int k b) = pure (.int k (k.wrap (a.tdiv b))) := by simp [binOp, Op.intDiv, h]
theorem b_rem (h : b ≠ 0) : binOp .rem t (.int k a) (.int k b) = pure (.int k (a.tmod b)) := by simp [binOp, Op.intDiv, h]
end

theorem Yl.unOp {op : UnOp} {t : TypeId} {x : Operand} {u v : Value} (hx : ev ρ x = u) (hv : Op.unary op u = pure v) : Yl P σ ⟨dst, .unOp op t x, ty, pos, after, guard⟩ ρ v L := by
  subst hx
  unfold Yl
  simp only [execOp]
  rw [hv]
  rfl

theorem Yl.convert_int {s d : TypeId} {x : Operand} {k0 k j : IntKind} {m : Int} (hs : intT P s = some j) (hd : intT P d = some k) (hx : ev ρ x = .int k0 m) :
    Yl P σ ⟨dst, .convert s d x, ty, pos, after, guard⟩ ρ (.int k (k.wrap m)) L := by
  unfold Yl
  simp only [execOp, xq_bind, convert, xq_underlying_eq, intT_spec hs, intT_spec hd, hx]
  rfl

theorem Yl.len_slice {x : Operand} {t e : TypeId} {a : Option Addr} {m c : Nat} (ht : elemOfSl P t = some e) (hx : ev ρ x = .slice a m c) :
    Yl P σ ⟨dst, .call { callee := .builtin .len, args := #[x], argTypes := #[t] }, ty, pos, after, guard⟩ ρ (.int .i64 m) L := by
  unfold Yl
  simp only [execOp, resolve, pure_bind, invoke, builtin, xq_bind, Builtin.len_]
  simp only [List.map_toArray, List.map_cons, List.map_nil, List.getElem?_toArray, List.getElem?_cons_zero, hx, xq_bind, xq_underlying_eq, elemOfSl_spec ht]
  rfl
theorem Yl.len_string {x : Operand} {t : TypeId} {s : ByteArray} (ht : isStrT P t = true) (hx : ev ρ x = .string s) :
    Yl P σ ⟨dst, .call { callee := .builtin .len, args := #[x], argTypes := #[t] }, ty, pos, after, guard⟩ ρ (.int .i64 s.size) L := by
  unfold Yl
  simp only [execOp, resolve, pure_bind, invoke, builtin, xq_bind, Builtin.len_]
  simp only [List.map_toArray, List.map_cons, List.map_nil, List.getElem?_toArray, List.getElem?_cons_zero, hx, xq_bind, xq_underlying_eq, isStrT_spec ht]
  rfl
theorem Yl.min {x y : Operand} {tys : Array TypeId} {k : IntKind} {a b : Int} (hx : ev ρ x = .int k a) (hy : ev ρ y = .int k b) :
    Yl P σ ⟨dst, .call { callee := .builtin .min, args := #[x, y], argTypes := tys }, ty, pos, after, guard⟩ ρ (.int k (if b < a then b else a)) L := by
  unfold Yl
  simp only [execOp, resolve, pure_bind, invoke, builtin, xq_bind, Builtin.min_, List.map_toArray, List.map_cons, List.map_nil, List.foldlM_cons, List.foldlM_nil, hx, hy, Builtin.min2]
  rfl
theorem Yl.max {x y : Operand} {tys : Array TypeId} {k : IntKind} {a b : Int} (hx : ev ρ x = .int k a) (hy : ev ρ y = .int k b) :
    Yl P σ ⟨dst, .call { callee := .builtin .max, args := #[x, y], argTypes := tys }, ty, pos, after, guard⟩ ρ (.int k (if b > a then b else a)) L := by
  unfold Yl
  simp only [execOp, resolve, pure_bind, invoke, builtin, xq_bind, Builtin.max_, List.map_toArray, List.map_cons, List.map_nil, List.foldlM_cons, List.foldlM_nil, hx, hy, Builtin.max2]
  rfl
theorem Yl.extract {x : Operand} {i : Nat} {vs : Array Value} {v : Value} (hx : ev ρ x = .tuple vs) (hv : vs[i]? = some v) : Yl P σ ⟨dst, .extract x i, ty, pos, after, guard⟩ ρ v L := by
  unfold Yl
  simp only [execOp, xq_bind, Instr.extract, hx, hv]
  rfl
theorem Yl.makeFunc {fn : Fn} {a b : Array Operand} : Yl P σ ⟨dst, .makeFunc fn a b, ty, pos, after, guard⟩ ρ (.func fn (a.map (ev ρ)) (b.map (ev ρ))) L := rfl
end Go.X
namespace Go.X
attribute [local semireducible] Yl XL XD XF xop
variable {P : Program} {σ : Sig} {n : Fm} {ops : Array Oper} {K : Env → Hp → Prop} {ρ : Env} {L L' : Hp} {dst : Option Tmp} {ty : TypeId} {pos : String} {after : Array Edge} {guard : Option (Nat × Bool)} {rest : List Oper}

/-- stepping forms -/
theorem XL.mv {x : Operand} {v : Value} (hok : okOp n.n ops ⟨dst, .move x, ty, pos, after, none⟩ = true) (hv : ev ρ x = v) (h : XL P σ n ops K rest (upd ρ dst v) L) : XL P σ n ops K (⟨dst, .move x, ty, pos, after, none⟩ :: rest) ρ L := by
  subst hv; exact XL.op hok rfl (Wk.intro h)
theorem XL.asg {x : Operand} {v : Value} (hok : okOp n.n ops ⟨dst, .assign x, ty, pos, after, none⟩ = true) (hv : ev ρ x = v) (h : XL P σ n ops K rest (upd ρ dst v) L) : XL P σ n ops K (⟨dst, .assign x, ty, pos, after, none⟩ :: rest) ρ L := by
  subst hv; exact XL.op hok rfl (Wk.intro h)
theorem XL.yl {op : Op} {v : Value} (hok : okOp n.n ops ⟨dst, op, ty, pos, after, none⟩ = true) (hy : Yl P σ ⟨dst, op, ty, pos, after, none⟩ ρ v L) (h : XL P σ n ops K rest (upd ρ dst v) L) : XL P σ n ops K (⟨dst, op, ty, pos, after, none⟩ :: rest) ρ L :=
  XL.y hok rfl hy h
theorem XL.x {op : Op} (hok : okOp n.n ops ⟨dst, op, ty, pos, after, none⟩ = true)
    (h : xop P σ ⟨dst, op, ty, pos, after, none⟩ ρ (fun v L => Wk (XL P σ n ops K rest (upd ρ dst v)) L) L) : XL P σ n ops K (⟨dst, op, ty, pos, after, none⟩ :: rest) ρ L := XL.op hok rfl h
theorem XD.ul {i : Nat} {op : Op} {p : Plan} {ac : Al} {lo : List Nat} {pd : Pend} {v : Value} (hi : ops[i]? = some ⟨dst, op, ty, pos, after, none⟩) (hok : okOp n.n ops ⟨dst, op, ty, pos, after, none⟩ = true)
    (hy : ∀ L, Yl P σ ⟨dst, op, ty, pos, after, none⟩ ρ v L) (h : XD P σ n ops K p ac lo pd (upd ρ dst v) L) : XD P σ n ops K (.u i p) ac lo pd ρ L := XD.u hi hok rfl hy h
theorem XD.ql {i : Nat} {op : Op} {p : Plan} {ac : Al} {lo : List Nat} {pd : Pend} {v : Value} (g : Hp → Prop) (hi : ops[i]? = some ⟨dst, op, ty, pos, after, none⟩) (hok : okOp n.n ops ⟨dst, op, ty, pos, after, none⟩ = true)
    (hy : ∀ L, g L → Yl P σ ⟨dst, op, ty, pos, after, none⟩ ρ v L) (hL : g L) (h : XD P σ n ops K p ac lo ((i, g) :: pd) (upd ρ dst v) L) : XD P σ n ops K (.q i p) ac lo pd ρ L := XD.q g hi hok rfl hy hL h
theorem XD.x {i : Nat} {op : Op} {p : Plan} {ac : Al} {lo : List Nat} {pd : Pend} (hi : ops[i]? = some ⟨dst, op, ty, pos, after, none⟩) (hok : okOp n.n ops ⟨dst, op, ty, pos, after, none⟩ = true)
    (h : xop P σ ⟨dst, op, ty, pos, after, none⟩ ρ (fun v L => Wk (fun L => recheck ops (i :: lo) L pd ∧ XD P σ n ops K p ac (i :: lo) pd (upd ρ dst v) L) L) L) : XD P σ n ops K (.l i p) ac lo pd ρ L := XD.l hi hok rfl h
theorem Yl.mv {x : Operand} {v : Value} (hv : ev ρ x = v) : Yl P σ ⟨dst, .move x, ty, pos, after, guard⟩ ρ v L := by subst hv; rfl
theorem Yl.asg {x : Operand} {v : Value} (hv : ev ρ x = v) : Yl P σ ⟨dst, .assign x, ty, pos, after, guard⟩ ρ v L := by subst hv; rfl
theorem Yl.nc {x : Operand} {a : Addr} (hx : ev ρ x = .pointer (some a)) : Yl P σ ⟨dst, .nilCheck x, ty, pos, after, guard⟩ ρ (.pointer (some a)) L := Yl.nilCheck hx rfl
theorem Yl.ncf {x : Operand} {f : FuncId} {a b : Array Value} (hx : ev ρ x = .func (.func f) a b) : Yl P σ ⟨dst, .nilCheck x, ty, pos, after, guard⟩ ρ (.func (.func f) a b) L := Yl.nilCheck hx rfl
theorem XL.ld {t : TypeId} {x : Operand} {a : Addr} {v : Value} (hok : okOp n.n ops ⟨dst, .load t x, ty, pos, after, none⟩ = true) (ht : isAggT P t = some false) (hx : ev ρ x = .pointer (some a)) (hr : Rd σ L a v)
    (h : XL P σ n ops K rest (upd ρ dst v) L) : XL P σ n ops K (⟨dst, .load t x, ty, pos, after, none⟩ :: rest) ρ L := XL.y hok rfl (Yl.load_cell ht hx hr) h
theorem XL.ldN {t : TypeId} {x : Operand} {a : Addr} {m : Nat} {vs : Array Value} (hok : okOp n.n ops ⟨dst, .load t x, ty, pos, after, none⟩ = true) (ht : isAggT P t = some true) (hm : szT P t = some m) (hx : ev ρ x = .pointer (some a))
    (hr : RdN σ L a m vs) (h : XL P σ n ops K rest (upd ρ dst (.agg vs)) L) : XL P σ n ops K (⟨dst, .load t x, ty, pos, after, none⟩ :: rest) ρ L := XL.y hok rfl (Yl.load_agg ht hm hx hr) h
theorem XD.ld {i : Nat} {p : Plan} {ac : Al} {lo : List Nat} {pd : Pend} {t : TypeId} {x : Operand} {a : Addr} {v : Value} (hi : ops[i]? = some ⟨dst, .load t x, ty, pos, after, none⟩)
    (hok : okOp n.n ops ⟨dst, .load t x, ty, pos, after, none⟩ = true) (ht : isAggT P t = some false) (hx : ev ρ x = .pointer (some a)) (hr : Rd σ L a v)
    (h : XD P σ n ops K p ac lo ((i, fun L => Rd σ L a v) :: pd) (upd ρ dst v) L) : XD P σ n ops K (.q i p) ac lo pd ρ L := XD.q _ hi hok rfl (fun _ hL => Yl.load_cell ht hx hL) hr h
theorem XD.ldN {i : Nat} {p : Plan} {ac : Al} {lo : List Nat} {pd : Pend} {t : TypeId} {x : Operand} {a : Addr} {m : Nat} {vs : Array Value} (hi : ops[i]? = some ⟨dst, .load t x, ty, pos, after, none⟩)
    (hok : okOp n.n ops ⟨dst, .load t x, ty, pos, after, none⟩ = true) (ht : isAggT P t = some true) (hm : szT P t = some m) (hx : ev ρ x = .pointer (some a)) (hr : RdN σ L a m vs)
    (h : XD P σ n ops K p ac lo ((i, fun L => RdN σ L a m vs) :: pd) (upd ρ dst (.agg vs)) L) : XD P σ n ops K (.q i p) ac lo pd ρ L := XD.q _ hi hok rfl (fun _ hL => Yl.load_agg ht hm hx hL) hr h

/-- stores -/
theorem xop_st1 {t : TypeId} {x y : Operand} {a : Addr} {v : Value} {K : Value → Hp → Prop} {L' : Hp} (hn : szT P t = some 1) (hx : ev ρ x = .pointer (some a)) (hy : ev ρ y = v) (hv : v.oneCell = true)
    (hw : Wr L a v L') (hk : K undef L') : xop P σ ⟨dst, .store t x y, ty, pos, after, guard⟩ ρ K L := by
  subst hy
  have hc : (ev ρ y).cells = #[ev ρ y] := by
    generalize ev ρ y = v at *
    cases v <;> first | rfl | cases hv
  refine xop_store (by rw [hc]; exact hn) (fun u hu => ?_) ?_
  · rw [hc] at hu; simp at hu; subst hu; exact hv
  · rw [hx]
    refine ⟨?_, L', ?_, hk⟩
    · exact hw.1
    · rw [hc]; exact hw.toN
theorem xop_stN {t : TypeId} {x y : Operand} {a : Addr} {vs : List Value} {K : Value → Hp → Prop} {L' : Hp} (hn : szT P t = some vs.length) (hx : ev ρ x = .pointer (some a)) (hy : ev ρ y = .agg vs.toArray)
    (hv : ∀ u ∈ vs, u.oneCell = true) (hw : WrN L a vs L') (hk : K undef L') : xop P σ ⟨dst, .store t x y, ty, pos, after, guard⟩ ρ K L := by
  have hc : (ev ρ y).cells.toList = vs := by rw [hy]; rfl
  have hc' : (ev ρ y).cells.size = vs.length := by rw [← hc]; simp
  refine xop_store (by rw [hc']; exact hn) (fun u hu => ?_) ?_
  · rw [hc] at hu; exact hv u hu
  · rw [hx]
    exact ⟨hw.1, L', by rw [hc]; exact hw, hk⟩

theorem XL.st {t : TypeId} {x y : Operand} {a : Addr} {v : Value} {L' : Hp} (hok : okOp n.n ops ⟨dst, .store t x y, ty, pos, after, none⟩ = true) (hn : szT P t = some 1) (hx : ev ρ x = .pointer (some a)) (hy : ev ρ y = v) (hv : v.oneCell = true)
    (hw : Wr L a v L') (h : XL P σ n ops K rest (upd ρ dst undef) L') : XL P σ n ops K (⟨dst, .store t x y, ty, pos, after, none⟩ :: rest) ρ L :=
  XL.op hok rfl (xop_st1 hn hx hy hv hw (Wk.intro h))
theorem XL.stN {t : TypeId} {x y : Operand} {a : Addr} {vs : List Value} {L' : Hp} (hok : okOp n.n ops ⟨dst, .store t x y, ty, pos, after, none⟩ = true) (hn : szT P t = some vs.length) (hx : ev ρ x = .pointer (some a)) (hy : ev ρ y = .agg vs.toArray)
    (hv : ∀ u ∈ vs, u.oneCell = true) (hw : WrN L a vs L') (h : XL P σ n ops K rest (upd ρ dst undef) L') : XL P σ n ops K (⟨dst, .store t x y, ty, pos, after, none⟩ :: rest) ρ L :=
  XL.op hok rfl (xop_stN hn hx hy hv hw (Wk.intro h))

/-- which block a write goes to, by looking -/
theorem Wr.here {b off : Nat} {c : Array Value} {e : TypeId} {v : Value} {R : Hp} (h : off < c.size) : Wr ((b, .cells c e (0, 0)) :: R) ⟨b, off, none⟩ v ((b, .cells (c.setIfInBounds off v) e (0, 0)) :: R) :=
  ⟨rfl, c, e, (0, 0), h, by simp, [], R, rfl, rfl⟩
theorem Wr.there {a : Addr} {v : Value} {x : Nat × Obj} {R R' : Hp} (h : Wr R a v R') : Wr (x :: R) a v (x :: R') := by
  obtain ⟨h1, c, e, fz, h2, h3, A, B, rfl, rfl⟩ := h
  exact ⟨h1, c, e, fz, h2, h3, x :: A, B, rfl, rfl⟩
theorem Wr.right {a : Addr} {v : Value} {A R R' : Hp} (h : Wr R a v R') : Wr (A ++ R) a v (A ++ R') := by
  obtain ⟨h1, c, e, fz, h2, h3, A', B, rfl, rfl⟩ := h
  exact ⟨h1, c, e, fz, h2, h3, A ++ A', B, by simp, by simp⟩
theorem Wr.left {a : Addr} {v : Value} {A R R' : Hp} (h : Wr R a v R') : Wr (R ++ A) a v (R' ++ A) := by
  obtain ⟨h1, c, e, fz, h2, h3, A', B, rfl, rfl⟩ := h
  exact ⟨h1, c, e, fz, h2, h3, A', B ++ A, by simp, by simp⟩

theorem Rd.here {b off : Nat} {c : Array Value} {e : TypeId} {fz : Nat × Nat} {v : Value} {R : Hp} (h : c[off]? = some v) : Rd σ ((b, .cells c e fz) :: R) ⟨b, off, none⟩ v :=
  ⟨rfl, c, e, fz, .inr (by simp), h⟩
theorem At.mem {b : Nat} {o : Obj} (h : At σ L b o) (hs : ∀ p ∈ L, p ∈ L') : At σ L' b o := h.imp id (hs _)
theorem Rd.mem {a : Addr} {v : Value} (h : Rd σ L a v) (hs : ∀ p ∈ L, p ∈ L') : Rd σ L' a v :=
  let ⟨h1, c, e, fz, ha, hc⟩ := h; ⟨h1, c, e, fz, ha.mem hs, hc⟩
theorem RdN.mem {a : Addr} {m : Nat} {v : Array Value} (h : RdN σ L a m v) (hs : ∀ p ∈ L, p ∈ L') : RdN σ L' a m v :=
  let ⟨h0, h1, c, e, fz, ha, hc⟩ := h; ⟨h0, h1, c, e, fz, ha.mem hs, hc⟩
theorem Rd.there {a : Addr} {v : Value} {x : Nat × Obj} (h : Rd σ L a v) : Rd σ (x :: L) a v := h.mem fun _ h => List.mem_cons_of_mem _ h
theorem Rd.right {a : Addr} {v : Value} {A : Hp} (h : Rd σ L a v) : Rd σ (A ++ L) a v := h.mem fun _ h => List.mem_append_right _ h
theorem Rd.left {a : Addr} {v : Value} {A : Hp} (h : Rd σ L a v) : Rd σ (L ++ A) a v := h.mem fun _ h => List.mem_append_left _ h
theorem RdN.there {a : Addr} {m : Nat} {v : Array Value} {x : Nat × Obj} (h : RdN σ L a m v) : RdN σ (x :: L) a m v := h.mem fun _ h => List.mem_cons_of_mem _ h
theorem RdN.right {a : Addr} {m : Nat} {v : Array Value} {A : Hp} (h : RdN σ L a m v) : RdN σ (A ++ L) a m v := h.mem fun _ h => List.mem_append_right _ h
theorem RdN.left {a : Addr} {m : Nat} {v : Array Value} {A : Hp} (h : RdN σ L a m v) : RdN σ (L ++ A) a m v := h.mem fun _ h => List.mem_append_left _ h
end Go.X
