import Derived.Test.YtoeboeihendiiaaGreatDoorF5
import Derived.Test.YtoeboeihendiiaaGreatDoorProg
import Derived.ProofKit
set_option linter.all false
namespace Go.Proofs.YtoeboeihendiiaaGreatDoor.linesNames
open Go.E

theorem mixed : Tryz.prog.follows .mixedOrders = true := by kernel_rfl

/-- strconv.ErrSyntax: some value -/
def gl6 (v : Value) : Nat → Nat → Option Value := fun g off => match Nat.beq g 6 with
  | true => match Nat.beq off 0 with
    | true => some v
    | false => none
  | false => none
def z (v : Value) (t : Tab) : Ex := ⟨66, 220, gl6 v, lookTab t, noH⟩

set_option maxRecDepth 1000000 in
theorem ex0 {w : World} {v : Value} (h : v.oneCell = true ∧ ∃ c e fz, (sigOf w).ro 6 = some (.cells c e fz) ∧ c[0]? = some v) : ExOk Tryz.prog (sigOf w) (z v []) where
  gl := fun g off u hu => by
    unfold z gl6 at hu
    simp only at hu
    split at hu
    · rename_i hg
      split at hu
      · rename_i ho
        cases hu
        rw [Nat.eq_of_beq_eq_true hg, Nat.eq_of_beq_eq_true ho]
        exact h
      · cases hu
    · cases hu
  orc := fun f args v h => by cases h
  orh := fun f args S v S1 h => by cases h
  ne := fun fn h => by
    obtain rfl : Tryz.f66 = fn := Option.some.inj (Tryz.func66.symm.trans h)
    exact ⟨by kernel_rfl, by kernel_rfl, by kernel_rfl, by kernel_rfl⟩
  mn := fun fn h => by
    obtain rfl : Tryz.f220 = fn := Option.some.inj (Tryz.func220.symm.trans h)
    exact ⟨by kernel_rfl, by kernel_rfl, by kernel_rfl, by kernel_rfl⟩
theorem exT {w : World} {v : Value} {t : Tab} (h : v.oneCell = true ∧ ∃ c e fz, (sigOf w).ro 6 = some (.cells c e fz) ∧ c[0]? = some v) (ht : TabOk Tryz.prog (sigOf w) t) : ExOk Tryz.prog (sigOf w) (z v t) := (ex0 h).tab ht

def example_ : V := .str [108, 97, 98, 101, 108, 115, 32, 123, 125, 32, 123, 48, 125, 10, 116, 97, 98, 108, 101, 32, 48, 32, 49, 10, 109, 97, 99, 104, 105, 110, 101, 32, 52, 32, 49, 32, 48, 32, 52, 10, 112, 114, 111, 99, 32, 48, 10, 32, 115, 101, 116, 32, 114, 48, 32, 49, 10, 32, 115, 101, 116, 32, 114, 49, 32, 53, 10, 32, 115, 101, 110, 100, 32, 114, 50, 32, 114, 48, 32, 114, 49, 10, 112, 114, 111, 99, 32, 49, 10, 32, 114, 101, 99, 118, 32, 114, 51, 32, 114, 52, 10, 32, 111, 117, 116, 32, 114, 51, 10, 32, 106, 117, 109, 112, 32, 48, 10, 116, 105, 99, 107, 32, 50, 10, 105, 110, 106, 101, 99, 116, 32, 49, 32, 57, 10, 107, 105, 108, 108, 32, 55, 10, 116, 105, 99, 107, 32, 50, 10]
def want_ : V := .str [48, 32, 50, 32, 49, 10, 48, 32, 50, 32, 49, 10, 49, 55, 32, 50, 32, 49, 10, 48, 32, 52, 32, 49, 10, 112, 97, 114, 116, 32, 48, 32, 48, 32, 48, 10, 112, 97, 114, 116, 32, 49, 32, 48, 32, 48, 10, 49, 32, 49, 32, 53, 10, 51, 32, 49, 32, 57, 10, 112, 114, 111, 99, 32, 48, 32, 53, 32, 51, 10, 112, 114, 111, 99, 32, 49, 32, 49, 32, 48, 10]

def tab1 : Tab := [
  (122, [.int .i64 1], .tup [.bool true, .bool false, .bool false, .bool true]),
  (122, [.int .i64 24], .tup [.bool true, .bool true, .bool true, .bool false]),
  (122, [.int .i64 25], .tup [.bool true, .bool true, .bool false, .bool false]),
  (122, [.int .i64 31], .tup [.bool true, .bool false, .bool false, .bool false]),
  (122, [.int .i64 22], .tup [.bool false, .bool false, .bool false, .bool true])] ++ []
set_option maxRecDepth 1000000 in
theorem ok1 {w : World} {v : Value} (h : v.oneCell = true ∧ ∃ c e fz, (sigOf w).ro 6 = some (.cells c e fz) ∧ c[0]? = some v) : TabOk Tryz.prog (sigOf w) tab1 :=
  have e : ExOk Tryz.prog (sigOf w) (z v []) := exT h TabOk.nil
  TabOk.cons (k := 1000000) mixed e (by kernel_rfl) (by kernel_rfl) (by kernel_rfl) <|
  TabOk.cons (k := 1000000) mixed e (by kernel_rfl) (by kernel_rfl) (by kernel_rfl) <|
  TabOk.cons (k := 1000000) mixed e (by kernel_rfl) (by kernel_rfl) (by kernel_rfl) <|
  TabOk.cons (k := 1000000) mixed e (by kernel_rfl) (by kernel_rfl) (by kernel_rfl) <|
  TabOk.cons (k := 1000000) mixed e (by kernel_rfl) (by kernel_rfl) (by kernel_rfl) <|
  TabOk.nil

def tab2 : Tab := [
  (93, [.agg [.int .i64 1, .int .i64 0, .int .i64 0, .int .i64 0, .int .i64 1], .int .i64 3, .int .i64 0], .int .i64 0),
  (93, [.agg [.int .i64 1, .int .i64 0, .int .i64 0, .int .i64 0, .int .i64 1], .int .i64 3, .int .i64 8], .int .i64 0),
  (93, [.agg [.int .i64 1, .int .i64 1, .int .i64 0, .int .i64 0, .int .i64 5], .int .i64 3, .int .i64 0], .int .i64 0),
  (93, [.agg [.int .i64 1, .int .i64 1, .int .i64 0, .int .i64 0, .int .i64 5], .int .i64 3, .int .i64 8], .int .i64 0),
  (93, [.agg [.int .i64 24, .int .i64 2, .int .i64 0, .int .i64 1, .int .i64 0], .int .i64 3, .int .i64 0], .int .i64 0),
  (93, [.agg [.int .i64 24, .int .i64 2, .int .i64 0, .int .i64 1, .int .i64 0], .int .i64 3, .int .i64 8], .int .i64 0),
  (93, [.agg [.int .i64 25, .int .i64 3, .int .i64 4, .int .i64 0, .int .i64 0], .int .i64 3, .int .i64 0], .int .i64 0),
  (93, [.agg [.int .i64 25, .int .i64 3, .int .i64 4, .int .i64 0, .int .i64 0], .int .i64 3, .int .i64 8], .int .i64 0),
  (93, [.agg [.int .i64 31, .int .i64 3, .int .i64 0, .int .i64 0, .int .i64 0], .int .i64 3, .int .i64 0], .int .i64 0),
  (93, [.agg [.int .i64 31, .int .i64 3, .int .i64 0, .int .i64 0, .int .i64 0], .int .i64 3, .int .i64 8], .int .i64 0),
  (93, [.agg [.int .i64 22, .int .i64 0, .int .i64 0, .int .i64 0, .int .i64 0], .int .i64 3, .int .i64 0], .int .i64 0),
  (93, [.agg [.int .i64 22, .int .i64 0, .int .i64 0, .int .i64 0, .int .i64 0], .int .i64 3, .int .i64 8], .int .i64 0),
  (40, [.str [123, 125]], .tup [.int .u64 0, .int .i64 0, .int .i64 0]),
  (40, [.str [123, 48, 125]], .tup [.int .u64 1, .int .i64 0, .int .i64 0]),
  (74, [.int .u64 0], .str [123, 125]),
  (74, [.int .u64 1], .str [123, 48, 125])] ++ tab1
set_option maxRecDepth 1000000 in
theorem ok2 {w : World} {v : Value} (h : v.oneCell = true ∧ ∃ c e fz, (sigOf w).ro 6 = some (.cells c e fz) ∧ c[0]? = some v) : TabOk Tryz.prog (sigOf w) tab2 :=
  have e : ExOk Tryz.prog (sigOf w) (z v tab1) := exT h (ok1 h)
  TabOk.cons (k := 1000000) mixed e (by kernel_rfl) (by kernel_rfl) (by kernel_rfl) <|
  TabOk.cons (k := 1000000) mixed e (by kernel_rfl) (by kernel_rfl) (by kernel_rfl) <|
  TabOk.cons (k := 1000000) mixed e (by kernel_rfl) (by kernel_rfl) (by kernel_rfl) <|
  TabOk.cons (k := 1000000) mixed e (by kernel_rfl) (by kernel_rfl) (by kernel_rfl) <|
  TabOk.cons (k := 1000000) mixed e (by kernel_rfl) (by kernel_rfl) (by kernel_rfl) <|
  TabOk.cons (k := 1000000) mixed e (by kernel_rfl) (by kernel_rfl) (by kernel_rfl) <|
  TabOk.cons (k := 1000000) mixed e (by kernel_rfl) (by kernel_rfl) (by kernel_rfl) <|
  TabOk.cons (k := 1000000) mixed e (by kernel_rfl) (by kernel_rfl) (by kernel_rfl) <|
  TabOk.cons (k := 1000000) mixed e (by kernel_rfl) (by kernel_rfl) (by kernel_rfl) <|
  TabOk.cons (k := 1000000) mixed e (by kernel_rfl) (by kernel_rfl) (by kernel_rfl) <|
  TabOk.cons (k := 1000000) mixed e (by kernel_rfl) (by kernel_rfl) (by kernel_rfl) <|
  TabOk.cons (k := 1000000) mixed e (by kernel_rfl) (by kernel_rfl) (by kernel_rfl) <|
  TabOk.cons (k := 1000000) mixed e (by kernel_rfl) (by kernel_rfl) (by kernel_rfl) <|
  TabOk.cons (k := 1000000) mixed e (by kernel_rfl) (by kernel_rfl) (by kernel_rfl) <|
  TabOk.cons (k := 1000000) mixed e (by kernel_rfl) (by kernel_rfl) (by kernel_rfl) <|
  TabOk.cons (k := 1000000) mixed e (by kernel_rfl) (by kernel_rfl) (by kernel_rfl) <|
  (ok1 h)

def tab3 : Tab := [
  (75, [.agg [.int .i64 1, .int .i64 0, .int .i64 0, .int .i64 0, .int .i64 1]], .str [115, 101, 116, 32, 114, 48, 32, 49, 10]),
  (75, [.agg [.int .i64 1, .int .i64 1, .int .i64 0, .int .i64 0, .int .i64 5]], .str [115, 101, 116, 32, 114, 49, 32, 53, 10]),
  (75, [.agg [.int .i64 24, .int .i64 2, .int .i64 0, .int .i64 1, .int .i64 0]], .str [115, 101, 110, 100, 32, 114, 50, 32, 114, 48, 32, 114, 49, 10]),
  (75, [.agg [.int .i64 25, .int .i64 3, .int .i64 4, .int .i64 0, .int .i64 0]], .str [114, 101, 99, 118, 32, 114, 51, 32, 114, 52, 10]),
  (75, [.agg [.int .i64 31, .int .i64 3, .int .i64 0, .int .i64 0, .int .i64 0]], .str [111, 117, 116, 32, 114, 51, 10]),
  (75, [.agg [.int .i64 22, .int .i64 0, .int .i64 0, .int .i64 0, .int .i64 0]], .str [106, 117, 109, 112, 32, 48, 10]),
  (232, [.str [115, 101, 116]], .tup [.int .i64 1, .bool true]),
  (232, [.str [115, 101, 110, 100]], .tup [.int .i64 24, .bool true]),
  (232, [.str [114, 101, 99, 118]], .tup [.int .i64 25, .bool true]),
  (232, [.str [111, 117, 116]], .tup [.int .i64 31, .bool true]),
  (232, [.str [106, 117, 109, 112]], .tup [.int .i64 22, .bool true])] ++ tab2
set_option maxRecDepth 1000000 in
theorem ok3 {w : World} {v : Value} (h : v.oneCell = true ∧ ∃ c e fz, (sigOf w).ro 6 = some (.cells c e fz) ∧ c[0]? = some v) : TabOk Tryz.prog (sigOf w) tab3 :=
  have e : ExOk Tryz.prog (sigOf w) (z v tab2) := exT h (ok2 h)
  TabOk.cons (k := 1000000) mixed e (by kernel_rfl) (by kernel_rfl) (by kernel_rfl) <|
  TabOk.cons (k := 1000000) mixed e (by kernel_rfl) (by kernel_rfl) (by kernel_rfl) <|
  TabOk.cons (k := 1000000) mixed e (by kernel_rfl) (by kernel_rfl) (by kernel_rfl) <|
  TabOk.cons (k := 1000000) mixed e (by kernel_rfl) (by kernel_rfl) (by kernel_rfl) <|
  TabOk.cons (k := 1000000) mixed e (by kernel_rfl) (by kernel_rfl) (by kernel_rfl) <|
  TabOk.cons (k := 1000000) mixed e (by kernel_rfl) (by kernel_rfl) (by kernel_rfl) <|
  TabOk.cons (k := 1000000) mixed e (by kernel_rfl) (by kernel_rfl) (by kernel_rfl) <|
  TabOk.cons (k := 1000000) mixed e (by kernel_rfl) (by kernel_rfl) (by kernel_rfl) <|
  TabOk.cons (k := 1000000) mixed e (by kernel_rfl) (by kernel_rfl) (by kernel_rfl) <|
  TabOk.cons (k := 1000000) mixed e (by kernel_rfl) (by kernel_rfl) (by kernel_rfl) <|
  TabOk.cons (k := 1000000) mixed e (by kernel_rfl) (by kernel_rfl) (by kernel_rfl) <|
  (ok2 h)

def tab4 : Tab := [
  (4, [.str []], .str [101, 114, 114, 111, 114, 32, 53, 32, 97, 116, 32, 49, 10]),
  (6, [.str [108, 97, 98, 101, 108, 115, 32, 123, 48, 125, 10]], .tup [.agg [.lit (.slice none 0 0), .lit (.slice none 0 0), .int .i64 0, .int .i64 0, .int .i64 0, .int .i64 0, .lit (.slice none 0 0), .lit (.slice none 0 0)], .int .i64 5, .int .i64 2])] ++ tab3
set_option maxRecDepth 1000000 in
theorem ok4 {w : World} {v : Value} (h : v.oneCell = true ∧ ∃ c e fz, (sigOf w).ro 6 = some (.cells c e fz) ∧ c[0]? = some v) : TabOk Tryz.prog (sigOf w) tab4 :=
  have e : ExOk Tryz.prog (sigOf w) (z v tab3) := exT h (ok3 h)
  TabOk.cons (k := 1000000) mixed e (by kernel_rfl) (by kernel_rfl) (by kernel_rfl) <|
  TabOk.cons (k := 1000000) mixed e (by kernel_rfl) (by kernel_rfl) (by kernel_rfl) <|
  (ok3 h)
end Go.Proofs.YtoeboeihendiiaaGreatDoor.linesNames
