import Derived.Test.YtoeboeihendiiaaGreatDoorE5
set_option linter.all false
namespace Go.E
open Go.X
attribute [local semireducible] Yl xop
variable {P : Program} {σ : Sig} {N : Nm} {E : T V} {ρ : X.Env} {L : Hp} {Z : Ex} {dst : Option Tmp} {ty : TypeId} {pos : String} {after : Array Edge} {guard : Option (Nat × Bool)}

def Bd (ρ : X.Env) (d : Nat) (b : Option Operand) (n : Nat) : Prop := (b = none ∧ n = d) ∨ ∃ x k, b = some x ∧ X.ev ρ x = .int k (n : Int)

theorem slBound_bd (he : ERel N E ρ) {d n : Nat} {b : Option Operand} (h : slBound E d b = some n) : Bd ρ d b n := by
  unfold slBound at h
  split at h
  · simp only [Option.some.injEq] at h; exact .inl ⟨rfl, h.symm⟩
  · rename_i x
    split at h
    · rename_i k m hx
      simp only [Option.some.injEq] at h
      subst h
      exact .inr ⟨x, k, rfl, den_int (evV_den he hx)⟩
    · cases h

theorem runP_bound {v : Value} {k : IntKind} {n y : Nat} {c : BoundsCode} (hv : v = .int k (n : Int)) (h : n ≤ y) : runP P (Instr.sliceBound v y c) = some n := by
  subst hv
  unfold Instr.sliceBound
  simp only [asIntOf, pure_bind]
  rw [if_pos (by omega)]
  rfl

theorem runP_bounds {s : Bool} {len cap l h m : Nat} {lo hi mx : Option Operand} (hm : Bd ρ cap mx m) (hl : Bd ρ 0 lo l) (hh : Bd ρ len hi h) (h1 : l ≤ h) (h2 : h ≤ m) (h3 : m ≤ cap) (ho : okMx hi mx = true) :
    runP P (Instr.sliceBounds s len cap (lo.map (X.ev ρ)) (hi.map (X.ev ρ)) (mx.map (X.ev ρ))) = some (l, h, m) := by
  unfold Instr.sliceBounds
  rcases hm with ⟨rfl, rfl⟩ | ⟨xm, km, rfl, hxm⟩
  · rcases hh with ⟨rfl, rfl⟩ | ⟨xh, kh, rfl, hxh⟩
    · rcases hl with ⟨rfl, rfl⟩ | ⟨xl, kl, rfl, hxl⟩
      · rfl
      · simp only [Option.map_none, Option.map_some, pure_bind]
        rw [runP_bind, runP_bound hxl h1]; rfl
    · rcases hl with ⟨rfl, rfl⟩ | ⟨xl, kl, rfl, hxl⟩
      · simp only [Option.map_none, Option.map_some, pure_bind]
        rw [runP_bind, runP_bound hxh h2]; rfl
      · simp only [Option.map_none, Option.map_some, pure_bind]
        rw [runP_bind, runP_bound hxh h2]
        simp only [Option.bind_some]
        rw [runP_bind, runP_bound hxl h1]; rfl
  · rcases hh with ⟨rfl, rfl⟩ | ⟨xh, kh, rfl, hxh⟩
    · simp [okMx] at ho
    · rcases hl with ⟨rfl, rfl⟩ | ⟨xl, kl, rfl, hxl⟩
      · simp only [Option.map_none, Option.map_some]
        rw [runP_bind, runP_bound hxm h3]
        simp only [Option.bind_some]
        rw [runP_bind, runP_bound hxh h2]; rfl
      · simp only [Option.map_some]
        rw [runP_bind, runP_bound hxm h3]
        simp only [Option.bind_some]
        rw [runP_bind, runP_bound hxh h2]
        simp only [Option.bind_some]
        rw [runP_bind, runP_bound hxl h1]; rfl

theorem runP_slice {t e : TypeId} {x : Operand} {lo hi mx : Option Operand} {a : Option Addr} {len cap l h m sz : Nat} (ht : elemOfSl P t = some e) (hs : szT P e = some sz)
    (hx : X.ev ρ x = .slice a len cap) (hm : Bd ρ cap mx m) (hl : Bd ρ 0 lo l) (hh : Bd ρ len hi h) (h1 : l ≤ h) (h2 : h ≤ m) (h3 : m ≤ cap) (ho : okMx hi mx = true) :
    runP P (Instr.sliceAt t (X.ev ρ x) (lo.map (X.ev ρ)) (hi.map (X.ev ρ)) (mx.map (X.ev ρ))) = some (.slice (if m = l then a else a.map (·.add (l * sz))) (h - l) (m - l)) := by
  unfold Instr.sliceAt
  rw [runP_bind, runP_underlying, elemOfSl_spec ht]
  simp only [Option.bind_some]
  unfold Instr.slice
  rw [runP_bind, runP_underlying, elemOfSl_spec ht]
  simp only [Option.bind_some, hx]
  rw [runP_bind, runP_bounds hm hl hh h1 h2 h3 ho]
  simp only [Option.bind_some]
  rw [runP_bind, runP_sizeOf, hs]
  rfl

theorem runP_sliceArr {t e : TypeId} {x : Operand} {lo hi mx : Option Operand} {a : Addr} {n l h m sz : Nat} (ht : arrT P t = some (n, e)) (hs : szT P e = some sz)
    (hx : X.ev ρ x = .pointer (some a)) (hm : Bd ρ n mx m) (hl : Bd ρ 0 lo l) (hh : Bd ρ n hi h) (h1 : l ≤ h) (h2 : h ≤ m) (h3 : m ≤ n) (ho : okMx hi mx = true) :
    runP P (Instr.sliceAt t (X.ev ρ x) (lo.map (X.ev ρ)) (hi.map (X.ev ρ)) (mx.map (X.ev ρ))) = some (.slice (some (if m = l then a else a.add (l * sz))) (h - l) (m - l)) := by
  unfold Instr.sliceAt
  rw [runP_bind, runP_underlying, arrT_spec ht]
  simp only [Option.bind_some]
  rw [runP_bind, hx]
  simp only [Instr.sureAddr]
  show (runP P _) = _
  rw [runP_bind, runP_bounds hm hl hh h1 h2 h3 ho]
  simp only [Option.bind_some]
  rw [runP_bind, runP_sizeOf, hs]
  rfl

theorem runP_sliceStr {t : TypeId} {x : Operand} {lo hi : Option Operand} {s : List Nat} {l h : Nat} (ht : isStrT P t = true)
    (hx : X.ev ρ x = .string (bytesOf s)) (hl : Bd ρ 0 lo l) (hh : Bd ρ s.length hi h) (h1 : l ≤ h) (h2 : h ≤ s.length) :
    runP P (Instr.sliceAt t (X.ev ρ x) (lo.map (X.ev ρ)) (hi.map (X.ev ρ)) none) = some (.string (bytesOf ((s.drop l).take (h - l)))) := by
  unfold Instr.sliceAt
  rw [runP_bind, runP_underlying, isStrT_spec ht]
  simp only [Option.bind_some]
  unfold Instr.slice
  rw [runP_bind, runP_underlying, isStrT_spec ht]
  simp only [Option.bind_some, hx, Option.isSome_none, Bool.false_eq_true, if_false]
  have := runP_bounds (P := P) (s := false) (len := s.length) (cap := s.length) (mx := none) (m := s.length) (.inl ⟨rfl, rfl⟩) hl hh h1 h2 (Nat.le_refl _) rfl
  simp only [Option.map_none] at this
  simp only [bytesOf_size]
  rw [runP_bind, this]
  simp only [Option.bind_some]
  show some (Value.string _) = _
  congr 2
  apply ByteArray.ext
  apply Array.ext'
  simp [ByteArray.data_extract, bytesOf, List.extract]

theorem elsz {t : TypeId} {sz : Nat} (h : (elemOfSl P t).bind (szT P) = some sz) : ∃ e, elemOfSl P t = some e ∧ szT P e = some sz := by
  cases he : elemOfSl P t with
  | none => simp [he] at h
  | some e => exact ⟨e, rfl, by simpa [he] using h⟩

theorem Yd.v {o : Oper} {v : V} {x : Value} {s : Sem Value} (hv : den N v = some x) (ho : execOp (X.ev ρ) o = (do pure (.value (← s)))) (hs : runP P s = some x) : Yd P σ N o ρ v :=
  Yd.run hv (by rw [ho]; exact runP_v hs)

theorem slice_sound (he : ERel N E ρ) {t : TypeId} {x : Operand} {lo hi mx : Option Operand} {v : V} (h : pureV P Z ⟨dst, .slice t x lo hi mx, ty, pos, after, guard⟩ E = some v) :
    Yd P σ N ⟨dst, .slice t x lo hi mx, ty, pos, after, guard⟩ ρ v := by
  simp only [pureV] at h
  split at h
  · -- a string
    rename_i l hx ho
    have hx' := den_str (evV_den he hx)
    split at h
    · rename_i a b hst ha hb
      split at h
      · rename_i hle
        simp only [Bool.and_eq_true] at hle
        simp only [Option.some.injEq] at h
        subst h
        exact Yd.v (den.eq_3 N _) rfl (runP_sliceStr hst hx' (slBound_bd he ha) (slBound_bd he hb) (Nat.le_of_ble_eq_true hle.1) (Nat.le_of_ble_eq_true hle.2))
      · cases h
    · cases h
  · -- nil
    rename_i n c hx ho
    have hx' := den_lit (evV_den he hx)
    split at h
    · rename_i sz m a b hsz hm ha hb
      obtain ⟨e, h1, h2⟩ := elsz hsz
      split at h
      · rename_i hle
        simp only [Bool.and_eq_true] at hle
        simp only [Option.some.injEq] at h
        subst h
        refine Yd.v (x := .slice none (b - a) (m - a)) rfl rfl ?_
        rw [runP_slice h1 h2 hx' (slBound_bd he hm) (slBound_bd he ha) (slBound_bd he hb) (Nat.le_of_ble_eq_true hle.1.1) (Nat.le_of_ble_eq_true hle.1.2) (Nat.le_of_ble_eq_true hle.2) ho]
        simp
      · cases h
    · cases h
  · -- a row
    rename_i k off n c hx ho
    obtain ⟨bb, cc, hk, hx'⟩ := den_sl (evV_den he hx)
    split at h
    · rename_i sz hsz
      obtain ⟨e, h1, h2⟩ := elsz hsz
      unfold shift at h
      split at h
      · rename_i m a b hm ha hb
        split at h
        · rename_i hle
          simp only [Bool.and_eq_true] at hle
          have hr := runP_slice h1 h2 hx' (slBound_bd he hm) (slBound_bd he ha) (slBound_bd he hb) (Nat.le_of_ble_eq_true hle.1.1) (Nat.le_of_ble_eq_true hle.1.2) (Nat.le_of_ble_eq_true hle.2) ho
          split at h
          · rename_i hma
            have := Nat.eq_of_beq_eq_true hma
            simp only [Option.some.injEq] at h
            subst h
            rw [if_pos this] at hr
            exact Yd.v (mk_sl hk) rfl hr
          · rename_i hma
            have : m ≠ a := fun h => by subst h; simp at hma
            simp only [Option.some.injEq] at h
            subst h
            rw [if_neg this] at hr
            simp only [Option.map_some, add_mk] at hr
            exact Yd.v (mk_sl hk) rfl hr
        · cases h
      · cases h
    · cases h
  · -- an open row
    rename_i k off n l0 hx ho
    obtain ⟨bb, cc, hk, hcap, hx'⟩ := den_osl (evV_den he hx)
    split at h
    · rename_i sz a b hsz ha hb
      obtain ⟨e, h1, h2⟩ := elsz hsz
      split at h
      · rename_i hle
        simp only [Bool.and_eq_true] at hle
        have hle1 := Nat.le_of_ble_eq_true hle.1
        have hle2 := Nat.le_of_ble_eq_true hle.2
        have hr := runP_slice (mx := none) h1 h2 hx' (.inl ⟨rfl, rfl⟩) (slBound_bd he ha) (slBound_bd he hb) hle1 (by omega) (Nat.le_refl _) ho
        split at h
        · rename_i ha0
          have := Nat.eq_of_beq_eq_true ha0
          simp only [Option.some.injEq] at h
          subst h
          subst this
          have e1 : (if cc - l0 = 0 then (some (⟨bb, off, none⟩ : Addr)) else (some ⟨bb, off, none⟩ : Option Addr).map (·.add (0 * sz))) = some ⟨bb, off, none⟩ := by
            split
            · rfl
            · simp [add_mk]
          rw [e1] at hr
          refine Yd.v (mk_osl hk (by omega)) rfl hr
        · split at h
          · rename_i hlt
            have hlt := Nat.le_of_ble_eq_true hlt
            simp only [Option.some.injEq] at h
            subst h
            rw [if_neg (by omega)] at hr
            simp only [Option.map_some, add_mk] at hr
            refine Yd.v (mk_osl hk (by omega)) rfl ?_
            rw [hr]
            congr 2
            omega
          · rename_i hlt
            have hlt : ¬ a < n := by
              intro hh
              exact absurd (Nat.ble_eq_true_of_le (show a + 1 ≤ n by omega)) (by rw [show Nat.ble (a + 1) n = false from hlt]; simp)
            obtain rfl : a = n := by omega
            obtain rfl : b = a := by omega
            simp only [Option.some.injEq] at h
            subst h
            refine Yd.v (mk_tl hk (by omega)) rfl ?_
            rw [hr]
            simp only [Option.map_some, add_mk, Nat.sub_self]
      · cases h
    · rename_i y sz a b hsz ha hb
      obtain ⟨e, h1, h2⟩ := elsz hsz
      split at h
      · rename_i m hm
        split at h
        · rename_i hle
          simp only [Bool.and_eq_true] at hle
          have hle1 := Nat.le_of_ble_eq_true hle.1.1
          have hle2 := Nat.le_of_ble_eq_true hle.1.2
          have hle3 := Nat.le_of_ble_eq_true hle.2
          have hm' : Bd ρ (cc - l0) (some y) m := by
            rcases slBound_bd he hm with ⟨h, _⟩ | h
            · cases h
            · exact .inr h
          have hr := runP_slice h1 h2 hx' hm' (slBound_bd he ha) (slBound_bd he hb) hle1 hle2 (by omega) ho
          split at h
          · rename_i hma
            have := Nat.eq_of_beq_eq_true hma
            simp only [Option.some.injEq] at h
            subst h
            rw [if_pos this] at hr
            exact Yd.v (mk_sl hk) rfl hr
          · rename_i hma
            have : m ≠ a := fun h => by subst h; simp at hma
            simp only [Option.some.injEq] at h
            subst h
            rw [if_neg this] at hr
            simp only [Option.map_some, add_mk] at hr
            exact Yd.v (mk_sl hk) rfl hr
        · cases h
      · cases h
    · cases h
  · -- an array
    rename_i k off hx ho
    obtain ⟨bb, cc, hk, hx'⟩ := den_ptr (evV_den he hx)
    split at h
    · rename_i n e ht
      split at h
      · rename_i sz hsz
        unfold shift at h
        split at h
        · rename_i m a b hm ha hb
          split at h
          · rename_i hle
            simp only [Bool.and_eq_true] at hle
            have hr := runP_sliceArr ht hsz hx' (slBound_bd he hm) (slBound_bd he ha) (slBound_bd he hb) (Nat.le_of_ble_eq_true hle.1.1) (Nat.le_of_ble_eq_true hle.1.2) (Nat.le_of_ble_eq_true hle.2) ho
            split at h
            · rename_i hma
              have := Nat.eq_of_beq_eq_true hma
              simp only [Option.some.injEq] at h
              subst h
              rw [if_pos this] at hr
              exact Yd.v (mk_sl hk) rfl hr
            · rename_i hma
              have : m ≠ a := fun h => by subst h; simp at hma
              simp only [Option.some.injEq] at h
              subst h
              rw [if_neg this] at hr
              simp only [add_mk] at hr
              exact Yd.v (mk_sl hk) rfl hr
          · cases h
        · cases h
      · cases h
    · cases h
  · cases h
end Go.E
