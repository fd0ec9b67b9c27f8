import Derived.Test.YtoeboeihendiiaaGreatDoorTables
set_option linter.all false
namespace Go.Proofs.YtoeboeihendiiaaGreatDoor.linesNames
open Go.E

def tab5_1 : Tab := [
  (79, [.str [108, 97, 98, 101, 108, 115, 32, 123, 125, 32, 123, 48, 125, 10, 116, 97, 98, 108, 101, 32, 48, 32, 49, 10, 109, 97, 99, 104, 105, 110, 101, 32, 52, 32, 49, 32, 48, 32, 52, 10, 112, 114, 111, 99, 32, 48, 10, 32, 115, 101, 116, 32, 114, 48, 32, 49, 10, 32, 115, 101, 116, 32, 114, 49, 32, 53, 10, 32, 115, 101, 110, 100, 32, 114, 50, 32, 114, 48, 32, 114, 49, 10, 112, 114, 111, 99, 32, 49, 10, 32, 114, 101, 99, 118, 32, 114, 51, 32, 114, 52, 10, 32, 111, 117, 116, 32, 114, 51, 10, 32, 106, 117, 109, 112, 32, 48, 10, 116, 105, 99, 107, 32, 50, 10, 105, 110, 106, 101, 99, 116, 32, 49, 32, 57, 10, 107, 105, 108, 108, 32, 55, 10, 116, 105, 99, 107, 32, 50, 10], .str [10]], .int .i64 15),
  (80, [.str [108, 97, 98, 101, 108, 115, 32, 123, 125, 32, 123, 48, 125, 10, 116, 97, 98, 108, 101, 32, 48, 32, 49, 10, 109, 97, 99, 104, 105, 110, 101, 32, 52, 32, 49, 32, 48, 32, 52, 10, 112, 114, 111, 99, 32, 48, 10, 32, 115, 101, 116, 32, 114, 48, 32, 49, 10, 32, 115, 101, 116, 32, 114, 49, 32, 53, 10, 32, 115, 101, 110, 100, 32, 114, 50, 32, 114, 48, 32, 114, 49, 10, 112, 114, 111, 99, 32, 49, 10, 32, 114, 101, 99, 118, 32, 114, 51, 32, 114, 52, 10, 32, 111, 117, 116, 32, 114, 51, 10, 32, 106, 117, 109, 112, 32, 48, 10, 116, 105, 99, 107, 32, 50, 10, 105, 110, 106, 101, 99, 116, 32, 49, 32, 57, 10, 107, 105, 108, 108, 32, 55, 10, 116, 105, 99, 107, 32, 50, 10], .str [10]], .int .i64 13),
  (80, [.str [116, 97, 98, 108, 101, 32, 48, 32, 49, 10, 109, 97, 99, 104, 105, 110, 101, 32, 52, 32, 49, 32, 48, 32, 52, 10, 112, 114, 111, 99, 32, 48, 10, 32, 115, 101, 116, 32, 114, 48, 32, 49, 10, 32, 115, 101, 116, 32, 114, 49, 32, 53, 10, 32, 115, 101, 110, 100, 32, 114, 50, 32, 114, 48, 32, 114, 49, 10, 112, 114, 111, 99, 32, 49, 10, 32, 114, 101, 99, 118, 32, 114, 51, 32, 114, 52, 10, 32, 111, 117, 116, 32, 114, 51, 10, 32, 106, 117, 109, 112, 32, 48, 10, 116, 105, 99, 107, 32, 50, 10, 105, 110, 106, 101, 99, 116, 32, 49, 32, 57, 10, 107, 105, 108, 108, 32, 55, 10, 116, 105, 99, 107, 32, 50, 10], .str [10]], .int .i64 9),
  (80, [.str [109, 97, 99, 104, 105, 110, 101, 32, 52, 32, 49, 32, 48, 32, 52, 10, 112, 114, 111, 99, 32, 48, 10, 32, 115, 101, 116, 32, 114, 48, 32, 49, 10, 32, 115, 101, 116, 32, 114, 49, 32, 53, 10, 32, 115, 101, 110, 100, 32, 114, 50, 32, 114, 48, 32, 114, 49, 10, 112, 114, 111, 99, 32, 49, 10, 32, 114, 101, 99, 118, 32, 114, 51, 32, 114, 52, 10, 32, 111, 117, 116, 32, 114, 51, 10, 32, 106, 117, 109, 112, 32, 48, 10, 116, 105, 99, 107, 32, 50, 10, 105, 110, 106, 101, 99, 116, 32, 49, 32, 57, 10, 107, 105, 108, 108, 32, 55, 10, 116, 105, 99, 107, 32, 50, 10], .str [10]], .int .i64 15),
  (80, [.str [112, 114, 111, 99, 32, 48, 10, 32, 115, 101, 116, 32, 114, 48, 32, 49, 10, 32, 115, 101, 116, 32, 114, 49, 32, 53, 10, 32, 115, 101, 110, 100, 32, 114, 50, 32, 114, 48, 32, 114, 49, 10, 112, 114, 111, 99, 32, 49, 10, 32, 114, 101, 99, 118, 32, 114, 51, 32, 114, 52, 10, 32, 111, 117, 116, 32, 114, 51, 10, 32, 106, 117, 109, 112, 32, 48, 10, 116, 105, 99, 107, 32, 50, 10, 105, 110, 106, 101, 99, 116, 32, 49, 32, 57, 10, 107, 105, 108, 108, 32, 55, 10, 116, 105, 99, 107, 32, 50, 10], .str [10]], .int .i64 6),
  (80, [.str [32, 115, 101, 116, 32, 114, 48, 32, 49, 10, 32, 115, 101, 116, 32, 114, 49, 32, 53, 10, 32, 115, 101, 110, 100, 32, 114, 50, 32, 114, 48, 32, 114, 49, 10, 112, 114, 111, 99, 32, 49, 10, 32, 114, 101, 99, 118, 32, 114, 51, 32, 114, 52, 10, 32, 111, 117, 116, 32, 114, 51, 10, 32, 106, 117, 109, 112, 32, 48, 10, 116, 105, 99, 107, 32, 50, 10, 105, 110, 106, 101, 99, 116, 32, 49, 32, 57, 10, 107, 105, 108, 108, 32, 55, 10, 116, 105, 99, 107, 32, 50, 10], .str [10]], .int .i64 9),
  (80, [.str [32, 115, 101, 116, 32, 114, 49, 32, 53, 10, 32, 115, 101, 110, 100, 32, 114, 50, 32, 114, 48, 32, 114, 49, 10, 112, 114, 111, 99, 32, 49, 10, 32, 114, 101, 99, 118, 32, 114, 51, 32, 114, 52, 10, 32, 111, 117, 116, 32, 114, 51, 10, 32, 106, 117, 109, 112, 32, 48, 10, 116, 105, 99, 107, 32, 50, 10, 105, 110, 106, 101, 99, 116, 32, 49, 32, 57, 10, 107, 105, 108, 108, 32, 55, 10, 116, 105, 99, 107, 32, 50, 10], .str [10]], .int .i64 9),
  (80, [.str [32, 115, 101, 110, 100, 32, 114, 50, 32, 114, 48, 32, 114, 49, 10, 112, 114, 111, 99, 32, 49, 10, 32, 114, 101, 99, 118, 32, 114, 51, 32, 114, 52, 10, 32, 111, 117, 116, 32, 114, 51, 10, 32, 106, 117, 109, 112, 32, 48, 10, 116, 105, 99, 107, 32, 50, 10, 105, 110, 106, 101, 99, 116, 32, 49, 32, 57, 10, 107, 105, 108, 108, 32, 55, 10, 116, 105, 99, 107, 32, 50, 10], .str [10]], .int .i64 14),
  (80, [.str [112, 114, 111, 99, 32, 49, 10, 32, 114, 101, 99, 118, 32, 114, 51, 32, 114, 52, 10, 32, 111, 117, 116, 32, 114, 51, 10, 32, 106, 117, 109, 112, 32, 48, 10, 116, 105, 99, 107, 32, 50, 10, 105, 110, 106, 101, 99, 116, 32, 49, 32, 57, 10, 107, 105, 108, 108, 32, 55, 10, 116, 105, 99, 107, 32, 50, 10], .str [10]], .int .i64 6),
  (80, [.str [32, 114, 101, 99, 118, 32, 114, 51, 32, 114, 52, 10, 32, 111, 117, 116, 32, 114, 51, 10, 32, 106, 117, 109, 112, 32, 48, 10, 116, 105, 99, 107, 32, 50, 10, 105, 110, 106, 101, 99, 116, 32, 49, 32, 57, 10, 107, 105, 108, 108, 32, 55, 10, 116, 105, 99, 107, 32, 50, 10], .str [10]], .int .i64 11),
  (80, [.str [32, 111, 117, 116, 32, 114, 51, 10, 32, 106, 117, 109, 112, 32, 48, 10, 116, 105, 99, 107, 32, 50, 10, 105, 110, 106, 101, 99, 116, 32, 49, 32, 57, 10, 107, 105, 108, 108, 32, 55, 10, 116, 105, 99, 107, 32, 50, 10], .str [10]], .int .i64 7),
  (80, [.str [32, 106, 117, 109, 112, 32, 48, 10, 116, 105, 99, 107, 32, 50, 10, 105, 110, 106, 101, 99, 116, 32, 49, 32, 57, 10, 107, 105, 108, 108, 32, 55, 10, 116, 105, 99, 107, 32, 50, 10], .str [10]], .int .i64 7),
  (80, [.str [116, 105, 99, 107, 32, 50, 10, 105, 110, 106, 101, 99, 116, 32, 49, 32, 57, 10, 107, 105, 108, 108, 32, 55, 10, 116, 105, 99, 107, 32, 50, 10], .str [10]], .int .i64 6),
  (80, [.str [105, 110, 106, 101, 99, 116, 32, 49, 32, 57, 10, 107, 105, 108, 108, 32, 55, 10, 116, 105, 99, 107, 32, 50, 10], .str [10]], .int .i64 10),
  (80, [.str [107, 105, 108, 108, 32, 55, 10, 116, 105, 99, 107, 32, 50, 10], .str [10]], .int .i64 6),
  (80, [.str [116, 105, 99, 107, 32, 50, 10], .str [10]], .int .i64 6),
  (79, [.str [108, 97, 98, 101, 108, 115, 32, 123, 125, 32, 123, 48, 125], .str [32]], .int .i64 2),
  (80, [.str [108, 97, 98, 101, 108, 115, 32, 123, 125, 32, 123, 48, 125], .str [32]], .int .i64 6),
  (80, [.str [123, 125, 32, 123, 48, 125], .str [32]], .int .i64 2),
  (79, [.str [116, 97, 98, 108, 101, 32, 48, 32, 49], .str [32]], .int .i64 2),
  (80, [.str [116, 97, 98, 108, 101, 32, 48, 32, 49], .str [32]], .int .i64 5),
  (80, [.str [48, 32, 49], .str [32]], .int .i64 1),
  (134, [.str [48], .int .i64 10, .int .i64 64], .tup [.int .i64 0, .lit .nilIface]),
  (30, [.int .i64 0, .int .i64 10], .str [48]),
  (134, [.str [49], .int .i64 10, .int .i64 64], .tup [.int .i64 1, .lit .nilIface]),
  (30, [.int .i64 1, .int .i64 10], .str [49]),
  (79, [.str [109, 97, 99, 104, 105, 110, 101, 32, 52, 32, 49, 32, 48, 32, 52], .str [32]], .int .i64 4),
  (80, [.str [109, 97, 99, 104, 105, 110, 101, 32, 52, 32, 49, 32, 48, 32, 52], .str [32]], .int .i64 7),
  (80, [.str [52, 32, 49, 32, 48, 32, 52], .str [32]], .int .i64 1),
  (80, [.str [49, 32, 48, 32, 52], .str [32]], .int .i64 1),
  (80, [.str [48, 32, 52], .str [32]], .int .i64 1),
  (134, [.str [52], .int .i64 10, .int .i64 64], .tup [.int .i64 4, .lit .nilIface]),
  (30, [.int .i64 4, .int .i64 10], .str [52]),
  (43, [.str [112, 114, 111, 99, 32, 48], .str [32]], .tup [.str [112, 114, 111, 99, 32, 48], .bool false]),
  (79, [.str [112, 114, 111, 99, 32, 48], .str [32]], .int .i64 1),
  (80, [.str [112, 114, 111, 99, 32, 48], .str [32]], .int .i64 4),
  (43, [.str [32, 115, 101, 116, 32, 114, 48, 32, 49], .str [32]], .tup [.str [115, 101, 116, 32, 114, 48, 32, 49], .bool true]),
  (43, [.str [32, 115, 101, 116, 32, 114, 49, 32, 53], .str [32]], .tup [.str [115, 101, 116, 32, 114, 49, 32, 53], .bool true]),
  (43, [.str [32, 115, 101, 110, 100, 32, 114, 50, 32, 114, 48, 32, 114, 49], .str [32]], .tup [.str [115, 101, 110, 100, 32, 114, 50, 32, 114, 48, 32, 114, 49], .bool true]),
  (43, [.str [112, 114, 111, 99, 32, 49], .str [32]], .tup [.str [112, 114, 111, 99, 32, 49], .bool false])] ++ tab4
set_option maxRecDepth 1000000 in
theorem ok5_1 {w : World} {v : Value} (h : v.oneCell = true ∧ ∃ c e fz, (sigOf w).ro 6 = some (.cells c e fz) ∧ c[0]? = some v) : TabOk Tryz.prog (sigOf w) tab5_1 :=
  have e : ExOk Tryz.prog (sigOf w) (z v tab4) := exT h (ok4 h)
  TabOk.cons (k := 1000000) mixed e (by kernel_rfl) (by kernel_rfl) (by kernel_rfl) <|
  TabOk.cons (k := 1000000) mixed e (by kernel_rfl) (by kernel_rfl) (by kernel_rfl) <|
  TabOk.cons (k := 1000000) mixed e (by kernel_rfl) (by kernel_rfl) (by kernel_rfl) <|
  TabOk.cons (k := 1000000) mixed e (by kernel_rfl) (by kernel_rfl) (by kernel_rfl) <|
  TabOk.cons (k := 1000000) mixed e (by kernel_rfl) (by kernel_rfl) (by kernel_rfl) <|
  TabOk.cons (k := 1000000) mixed e (by kernel_rfl) (by kernel_rfl) (by kernel_rfl) <|
  TabOk.cons (k := 1000000) mixed e (by kernel_rfl) (by kernel_rfl) (by kernel_rfl) <|
  TabOk.cons (k := 1000000) mixed e (by kernel_rfl) (by kernel_rfl) (by kernel_rfl) <|
  TabOk.cons (k := 1000000) mixed e (by kernel_rfl) (by kernel_rfl) (by kernel_rfl) <|
  TabOk.cons (k := 1000000) mixed e (by kernel_rfl) (by kernel_rfl) (by kernel_rfl) <|
  TabOk.cons (k := 1000000) mixed e (by kernel_rfl) (by kernel_rfl) (by kernel_rfl) <|
  TabOk.cons (k := 1000000) mixed e (by kernel_rfl) (by kernel_rfl) (by kernel_rfl) <|
  TabOk.cons (k := 1000000) mixed e (by kernel_rfl) (by kernel_rfl) (by kernel_rfl) <|
  TabOk.cons (k := 1000000) mixed e (by kernel_rfl) (by kernel_rfl) (by kernel_rfl) <|
  TabOk.cons (k := 1000000) mixed e (by kernel_rfl) (by kernel_rfl) (by kernel_rfl) <|
  TabOk.cons (k := 1000000) mixed e (by kernel_rfl) (by kernel_rfl) (by kernel_rfl) <|
  TabOk.cons (k := 1000000) mixed e (by kernel_rfl) (by kernel_rfl) (by kernel_rfl) <|
  TabOk.cons (k := 1000000) mixed e (by kernel_rfl) (by kernel_rfl) (by kernel_rfl) <|
  TabOk.cons (k := 1000000) mixed e (by kernel_rfl) (by kernel_rfl) (by kernel_rfl) <|
  TabOk.cons (k := 1000000) mixed e (by kernel_rfl) (by kernel_rfl) (by kernel_rfl) <|
  TabOk.cons (k := 1000000) mixed e (by kernel_rfl) (by kernel_rfl) (by kernel_rfl) <|
  TabOk.cons (k := 1000000) mixed e (by kernel_rfl) (by kernel_rfl) (by kernel_rfl) <|
  TabOk.cons (k := 1000000) mixed e (by kernel_rfl) (by kernel_rfl) (by kernel_rfl) <|
  TabOk.cons (k := 1000000) mixed e (by kernel_rfl) (by kernel_rfl) (by kernel_rfl) <|
  TabOk.cons (k := 1000000) mixed e (by kernel_rfl) (by kernel_rfl) (by kernel_rfl) <|
  TabOk.cons (k := 1000000) mixed e (by kernel_rfl) (by kernel_rfl) (by kernel_rfl) <|
  TabOk.cons (k := 1000000) mixed e (by kernel_rfl) (by kernel_rfl) (by kernel_rfl) <|
  TabOk.cons (k := 1000000) mixed e (by kernel_rfl) (by kernel_rfl) (by kernel_rfl) <|
  TabOk.cons (k := 1000000) mixed e (by kernel_rfl) (by kernel_rfl) (by kernel_rfl) <|
  TabOk.cons (k := 1000000) mixed e (by kernel_rfl) (by kernel_rfl) (by kernel_rfl) <|
  TabOk.cons (k := 1000000) mixed e (by kernel_rfl) (by kernel_rfl) (by kernel_rfl) <|
  TabOk.cons (k := 1000000) mixed e (by kernel_rfl) (by kernel_rfl) (by kernel_rfl) <|
  TabOk.cons (k := 1000000) mixed e (by kernel_rfl) (by kernel_rfl) (by kernel_rfl) <|
  TabOk.cons (k := 1000000) mixed e (by kernel_rfl) (by kernel_rfl) (by kernel_rfl) <|
  TabOk.cons (k := 1000000) mixed e (by kernel_rfl) (by kernel_rfl) (by kernel_rfl) <|
  TabOk.cons (k := 1000000) mixed e (by kernel_rfl) (by kernel_rfl) (by kernel_rfl) <|
  TabOk.cons (k := 1000000) mixed e (by kernel_rfl) (by kernel_rfl) (by kernel_rfl) <|
  TabOk.cons (k := 1000000) mixed e (by kernel_rfl) (by kernel_rfl) (by kernel_rfl) <|
  TabOk.cons (k := 1000000) mixed e (by kernel_rfl) (by kernel_rfl) (by kernel_rfl) <|
  TabOk.cons (k := 1000000) mixed e (by kernel_rfl) (by kernel_rfl) (by kernel_rfl) <|
  ok4 h

def tab5_2 : Tab := [
  (79, [.str [115, 101, 116, 32, 114, 48, 32, 49, 10, 115, 101, 116, 32, 114, 49, 32, 53, 10, 115, 101, 110, 100, 32, 114, 50, 32, 114, 48, 32, 114, 49, 10], .str [10]], .int .i64 3),
  (182, [.str [115, 101, 116, 32, 114, 48, 32, 49, 10, 115, 101, 116, 32, 114, 49, 32, 53, 10, 115, 101, 110, 100, 32, 114, 50, 32, 114, 48, 32, 114, 49, 10], .str [10]], .tup [.str [115, 101, 116, 32, 114, 48, 32, 49], .str [115, 101, 116, 32, 114, 49, 32, 53, 10, 115, 101, 110, 100, 32, 114, 50, 32, 114, 48, 32, 114, 49, 10], .bool true]),
  (182, [.str [115, 101, 116, 32, 114, 48, 32, 49], .str [32]], .tup [.str [115, 101, 116], .str [114, 48, 32, 49], .bool true]),
  (182, [.str [114, 48, 32, 49], .str [32]], .tup [.str [114, 48], .str [49], .bool true]),
  (123, [.int .i64 0], .str [114, 48]),
  (182, [.str [49], .str [32]], .tup [.str [49], .str [], .bool false]),
  (265, [.str [49]], .tup [.int .i64 1, .bool true]),
  (182, [.str [115, 101, 116, 32, 114, 49, 32, 53, 10, 115, 101, 110, 100, 32, 114, 50, 32, 114, 48, 32, 114, 49, 10], .str [10]], .tup [.str [115, 101, 116, 32, 114, 49, 32, 53], .str [115, 101, 110, 100, 32, 114, 50, 32, 114, 48, 32, 114, 49, 10], .bool true]),
  (182, [.str [115, 101, 116, 32, 114, 49, 32, 53], .str [32]], .tup [.str [115, 101, 116], .str [114, 49, 32, 53], .bool true]),
  (182, [.str [114, 49, 32, 53], .str [32]], .tup [.str [114, 49], .str [53], .bool true]),
  (123, [.int .i64 1], .str [114, 49]),
  (182, [.str [53], .str [32]], .tup [.str [53], .str [], .bool false]),
  (265, [.str [53]], .tup [.int .i64 5, .bool true]),
  (182, [.str [115, 101, 110, 100, 32, 114, 50, 32, 114, 48, 32, 114, 49, 10], .str [10]], .tup [.str [115, 101, 110, 100, 32, 114, 50, 32, 114, 48, 32, 114, 49], .str [], .bool true]),
  (182, [.str [115, 101, 110, 100, 32, 114, 50, 32, 114, 48, 32, 114, 49], .str [32]], .tup [.str [115, 101, 110, 100], .str [114, 50, 32, 114, 48, 32, 114, 49], .bool true]),
  (182, [.str [114, 50, 32, 114, 48, 32, 114, 49], .str [32]], .tup [.str [114, 50], .str [114, 48, 32, 114, 49], .bool true]),
  (123, [.int .i64 2], .str [114, 50]),
  (182, [.str [114, 48, 32, 114, 49], .str [32]], .tup [.str [114, 48], .str [114, 49], .bool true]),
  (182, [.str [114, 49], .str [32]], .tup [.str [114, 49], .str [], .bool false]),
  (79, [.str [112, 114, 111, 99, 32, 49], .str [32]], .int .i64 1),
  (80, [.str [112, 114, 111, 99, 32, 49], .str [32]], .int .i64 4),
  (43, [.str [32, 114, 101, 99, 118, 32, 114, 51, 32, 114, 52], .str [32]], .tup [.str [114, 101, 99, 118, 32, 114, 51, 32, 114, 52], .bool true]),
  (43, [.str [32, 111, 117, 116, 32, 114, 51], .str [32]], .tup [.str [111, 117, 116, 32, 114, 51], .bool true]),
  (43, [.str [32, 106, 117, 109, 112, 32, 48], .str [32]], .tup [.str [106, 117, 109, 112, 32, 48], .bool true]),
  (43, [.str [116, 105, 99, 107, 32, 50], .str [32]], .tup [.str [116, 105, 99, 107, 32, 50], .bool false]),
  (79, [.str [114, 101, 99, 118, 32, 114, 51, 32, 114, 52, 10, 111, 117, 116, 32, 114, 51, 10, 106, 117, 109, 112, 32, 48, 10], .str [10]], .int .i64 3),
  (182, [.str [114, 101, 99, 118, 32, 114, 51, 32, 114, 52, 10, 111, 117, 116, 32, 114, 51, 10, 106, 117, 109, 112, 32, 48, 10], .str [10]], .tup [.str [114, 101, 99, 118, 32, 114, 51, 32, 114, 52], .str [111, 117, 116, 32, 114, 51, 10, 106, 117, 109, 112, 32, 48, 10], .bool true]),
  (182, [.str [114, 101, 99, 118, 32, 114, 51, 32, 114, 52], .str [32]], .tup [.str [114, 101, 99, 118], .str [114, 51, 32, 114, 52], .bool true]),
  (182, [.str [114, 51, 32, 114, 52], .str [32]], .tup [.str [114, 51], .str [114, 52], .bool true]),
  (123, [.int .i64 3], .str [114, 51]),
  (182, [.str [114, 52], .str [32]], .tup [.str [114, 52], .str [], .bool false]),
  (123, [.int .i64 4], .str [114, 52]),
  (182, [.str [111, 117, 116, 32, 114, 51, 10, 106, 117, 109, 112, 32, 48, 10], .str [10]], .tup [.str [111, 117, 116, 32, 114, 51], .str [106, 117, 109, 112, 32, 48, 10], .bool true]),
  (182, [.str [111, 117, 116, 32, 114, 51], .str [32]], .tup [.str [111, 117, 116], .str [114, 51], .bool true]),
  (182, [.str [114, 51], .str [32]], .tup [.str [114, 51], .str [], .bool false]),
  (182, [.str [106, 117, 109, 112, 32, 48, 10], .str [10]], .tup [.str [106, 117, 109, 112, 32, 48], .str [], .bool true]),
  (182, [.str [106, 117, 109, 112, 32, 48], .str [32]], .tup [.str [106, 117, 109, 112], .str [48], .bool true]),
  (182, [.str [48], .str [32]], .tup [.str [48], .str [], .bool false]),
  (264, [.str [48]], .tup [.int .i64 0, .bool true]),
  (79, [.str [116, 105, 99, 107, 32, 50], .str [32]], .int .i64 1)] ++ tab5_1
set_option maxRecDepth 1000000 in
theorem ok5_2 {w : World} {v : Value} (h : v.oneCell = true ∧ ∃ c e fz, (sigOf w).ro 6 = some (.cells c e fz) ∧ c[0]? = some v) : TabOk Tryz.prog (sigOf w) tab5_2 :=
  have e : ExOk Tryz.prog (sigOf w) (z v tab4) := exT h (ok4 h)
  TabOk.cons (k := 1000000) mixed e (by kernel_rfl) (by kernel_rfl) (by kernel_rfl) <|
  TabOk.cons (k := 1000000) mixed e (by kernel_rfl) (by kernel_rfl) (by kernel_rfl) <|
  TabOk.cons (k := 1000000) mixed e (by kernel_rfl) (by kernel_rfl) (by kernel_rfl) <|
  TabOk.cons (k := 1000000) mixed e (by kernel_rfl) (by kernel_rfl) (by kernel_rfl) <|
  TabOk.cons (k := 1000000) mixed e (by kernel_rfl) (by kernel_rfl) (by kernel_rfl) <|
  TabOk.cons (k := 1000000) mixed e (by kernel_rfl) (by kernel_rfl) (by kernel_rfl) <|
  TabOk.cons (k := 1000000) mixed e (by kernel_rfl) (by kernel_rfl) (by kernel_rfl) <|
  TabOk.cons (k := 1000000) mixed e (by kernel_rfl) (by kernel_rfl) (by kernel_rfl) <|
  TabOk.cons (k := 1000000) mixed e (by kernel_rfl) (by kernel_rfl) (by kernel_rfl) <|
  TabOk.cons (k := 1000000) mixed e (by kernel_rfl) (by kernel_rfl) (by kernel_rfl) <|
  TabOk.cons (k := 1000000) mixed e (by kernel_rfl) (by kernel_rfl) (by kernel_rfl) <|
  TabOk.cons (k := 1000000) mixed e (by kernel_rfl) (by kernel_rfl) (by kernel_rfl) <|
  TabOk.cons (k := 1000000) mixed e (by kernel_rfl) (by kernel_rfl) (by kernel_rfl) <|
  TabOk.cons (k := 1000000) mixed e (by kernel_rfl) (by kernel_rfl) (by kernel_rfl) <|
  TabOk.cons (k := 1000000) mixed e (by kernel_rfl) (by kernel_rfl) (by kernel_rfl) <|
  TabOk.cons (k := 1000000) mixed e (by kernel_rfl) (by kernel_rfl) (by kernel_rfl) <|
  TabOk.cons (k := 1000000) mixed e (by kernel_rfl) (by kernel_rfl) (by kernel_rfl) <|
  TabOk.cons (k := 1000000) mixed e (by kernel_rfl) (by kernel_rfl) (by kernel_rfl) <|
  TabOk.cons (k := 1000000) mixed e (by kernel_rfl) (by kernel_rfl) (by kernel_rfl) <|
  TabOk.cons (k := 1000000) mixed e (by kernel_rfl) (by kernel_rfl) (by kernel_rfl) <|
  TabOk.cons (k := 1000000) mixed e (by kernel_rfl) (by kernel_rfl) (by kernel_rfl) <|
  TabOk.cons (k := 1000000) mixed e (by kernel_rfl) (by kernel_rfl) (by kernel_rfl) <|
  TabOk.cons (k := 1000000) mixed e (by kernel_rfl) (by kernel_rfl) (by kernel_rfl) <|
  TabOk.cons (k := 1000000) mixed e (by kernel_rfl) (by kernel_rfl) (by kernel_rfl) <|
  TabOk.cons (k := 1000000) mixed e (by kernel_rfl) (by kernel_rfl) (by kernel_rfl) <|
  TabOk.cons (k := 1000000) mixed e (by kernel_rfl) (by kernel_rfl) (by kernel_rfl) <|
  TabOk.cons (k := 1000000) mixed e (by kernel_rfl) (by kernel_rfl) (by kernel_rfl) <|
  TabOk.cons (k := 1000000) mixed e (by kernel_rfl) (by kernel_rfl) (by kernel_rfl) <|
  TabOk.cons (k := 1000000) mixed e (by kernel_rfl) (by kernel_rfl) (by kernel_rfl) <|
  TabOk.cons (k := 1000000) mixed e (by kernel_rfl) (by kernel_rfl) (by kernel_rfl) <|
  TabOk.cons (k := 1000000) mixed e (by kernel_rfl) (by kernel_rfl) (by kernel_rfl) <|
  TabOk.cons (k := 1000000) mixed e (by kernel_rfl) (by kernel_rfl) (by kernel_rfl) <|
  TabOk.cons (k := 1000000) mixed e (by kernel_rfl) (by kernel_rfl) (by kernel_rfl) <|
  TabOk.cons (k := 1000000) mixed e (by kernel_rfl) (by kernel_rfl) (by kernel_rfl) <|
  TabOk.cons (k := 1000000) mixed e (by kernel_rfl) (by kernel_rfl) (by kernel_rfl) <|
  TabOk.cons (k := 1000000) mixed e (by kernel_rfl) (by kernel_rfl) (by kernel_rfl) <|
  TabOk.cons (k := 1000000) mixed e (by kernel_rfl) (by kernel_rfl) (by kernel_rfl) <|
  TabOk.cons (k := 1000000) mixed e (by kernel_rfl) (by kernel_rfl) (by kernel_rfl) <|
  TabOk.cons (k := 1000000) mixed e (by kernel_rfl) (by kernel_rfl) (by kernel_rfl) <|
  TabOk.cons (k := 1000000) mixed e (by kernel_rfl) (by kernel_rfl) (by kernel_rfl) <|
  ok5_1 h

def tab5_3 : Tab := [
  (80, [.str [116, 105, 99, 107, 32, 50], .str [32]], .int .i64 4),
  (134, [.str [50], .int .i64 10, .int .i64 64], .tup [.int .i64 2, .lit .nilIface]),
  (30, [.int .i64 2, .int .i64 10], .str [50]),
  (43, [.str [105, 110, 106, 101, 99, 116, 32, 49, 32, 57], .str [32]], .tup [.str [105, 110, 106, 101, 99, 116, 32, 49, 32, 57], .bool false]),
  (79, [.str [105, 110, 106, 101, 99, 116, 32, 49, 32, 57], .str [32]], .int .i64 2),
  (80, [.str [105, 110, 106, 101, 99, 116, 32, 49, 32, 57], .str [32]], .int .i64 6),
  (80, [.str [49, 32, 57], .str [32]], .int .i64 1),
  (134, [.str [57], .int .i64 10, .int .i64 64], .tup [.int .i64 9, .lit .nilIface]),
  (30, [.int .i64 9, .int .i64 10], .str [57]),
  (43, [.str [107, 105, 108, 108, 32, 55], .str [32]], .tup [.str [107, 105, 108, 108, 32, 55], .bool false]),
  (79, [.str [107, 105, 108, 108, 32, 55], .str [32]], .int .i64 1),
  (80, [.str [107, 105, 108, 108, 32, 55], .str [32]], .int .i64 4),
  (134, [.str [55], .int .i64 10, .int .i64 64], .tup [.int .i64 7, .lit .nilIface]),
  (30, [.int .i64 7, .int .i64 10], .str [55]),
  (46, [.int .i64 2, .int .i64 64], .int .i64 0),
  (48, [.int .i64 0, .int .i64 0], .int .i64 0),
  (48, [.int .i64 1, .int .i64 0], .int .i64 0),
  (48, [.int .i64 2, .int .i64 4], .int .i64 0),
  (48, [.int .i64 3, .int .i64 1], .int .i64 0),
  (48, [.int .i64 4, .int .i64 0], .int .i64 0),
  (48, [.int .i64 5, .int .i64 4], .int .i64 0),
  (46, [.int .i64 2, .int .i64 32], .int .i64 0),
  (49, [.int .i64 0, .int .i64 0, .int .i64 1], .bool true),
  (49, [.int .i64 1, .int .i64 0, .int .i64 1], .bool true),
  (51, [.agg [.int .i64 1, .int .i64 2, .int .i64 0]], .int .i64 0),
  (51, [.agg [.int .i64 2, .int .i64 1, .int .i64 9]], .int .i64 0),
  (51, [.agg [.int .i64 3, .int .i64 7, .int .i64 0]], .int .i64 0),
  (46, [.int .i64 2, .int .i64 8], .int .i64 0),
  (106, [.int .i64 3], .int .i64 0),
  (145, [.int .u64 1], .int .i64 0),
  (145, [.int .u64 0], .int .i64 0),
  (145, [.int .u64 5], .int .i64 0),
  (145, [.int .u64 24], .int .i64 0),
  (145, [.int .u64 2], .int .i64 0),
  (145, [.int .u64 25], .int .i64 0),
  (145, [.int .u64 3], .int .i64 0),
  (145, [.int .u64 4], .int .i64 0),
  (145, [.int .u64 31], .int .i64 0),
  (145, [.int .u64 22], .int .i64 0),
  (156, [.int .u64 1, .int .u64 0], .tup [.int .u64 0, .int .u64 0])] ++ tab5_2
set_option maxRecDepth 1000000 in
theorem ok5_3 {w : World} {v : Value} (h : v.oneCell = true ∧ ∃ c e fz, (sigOf w).ro 6 = some (.cells c e fz) ∧ c[0]? = some v) : TabOk Tryz.prog (sigOf w) tab5_3 :=
  have e : ExOk Tryz.prog (sigOf w) (z v tab4) := exT h (ok4 h)
  TabOk.cons (k := 1000000) mixed e (by kernel_rfl) (by kernel_rfl) (by kernel_rfl) <|
  TabOk.cons (k := 1000000) mixed e (by kernel_rfl) (by kernel_rfl) (by kernel_rfl) <|
  TabOk.cons (k := 1000000) mixed e (by kernel_rfl) (by kernel_rfl) (by kernel_rfl) <|
  TabOk.cons (k := 1000000) mixed e (by kernel_rfl) (by kernel_rfl) (by kernel_rfl) <|
  TabOk.cons (k := 1000000) mixed e (by kernel_rfl) (by kernel_rfl) (by kernel_rfl) <|
  TabOk.cons (k := 1000000) mixed e (by kernel_rfl) (by kernel_rfl) (by kernel_rfl) <|
  TabOk.cons (k := 1000000) mixed e (by kernel_rfl) (by kernel_rfl) (by kernel_rfl) <|
  TabOk.cons (k := 1000000) mixed e (by kernel_rfl) (by kernel_rfl) (by kernel_rfl) <|
  TabOk.cons (k := 1000000) mixed e (by kernel_rfl) (by kernel_rfl) (by kernel_rfl) <|
  TabOk.cons (k := 1000000) mixed e (by kernel_rfl) (by kernel_rfl) (by kernel_rfl) <|
  TabOk.cons (k := 1000000) mixed e (by kernel_rfl) (by kernel_rfl) (by kernel_rfl) <|
  TabOk.cons (k := 1000000) mixed e (by kernel_rfl) (by kernel_rfl) (by kernel_rfl) <|
  TabOk.cons (k := 1000000) mixed e (by kernel_rfl) (by kernel_rfl) (by kernel_rfl) <|
  TabOk.cons (k := 1000000) mixed e (by kernel_rfl) (by kernel_rfl) (by kernel_rfl) <|
  TabOk.cons (k := 1000000) mixed e (by kernel_rfl) (by kernel_rfl) (by kernel_rfl) <|
  TabOk.cons (k := 1000000) mixed e (by kernel_rfl) (by kernel_rfl) (by kernel_rfl) <|
  TabOk.cons (k := 1000000) mixed e (by kernel_rfl) (by kernel_rfl) (by kernel_rfl) <|
  TabOk.cons (k := 1000000) mixed e (by kernel_rfl) (by kernel_rfl) (by kernel_rfl) <|
  TabOk.cons (k := 1000000) mixed e (by kernel_rfl) (by kernel_rfl) (by kernel_rfl) <|
  TabOk.cons (k := 1000000) mixed e (by kernel_rfl) (by kernel_rfl) (by kernel_rfl) <|
  TabOk.cons (k := 1000000) mixed e (by kernel_rfl) (by kernel_rfl) (by kernel_rfl) <|
  TabOk.cons (k := 1000000) mixed e (by kernel_rfl) (by kernel_rfl) (by kernel_rfl) <|
  TabOk.cons (k := 1000000) mixed e (by kernel_rfl) (by kernel_rfl) (by kernel_rfl) <|
  TabOk.cons (k := 1000000) mixed e (by kernel_rfl) (by kernel_rfl) (by kernel_rfl) <|
  TabOk.cons (k := 1000000) mixed e (by kernel_rfl) (by kernel_rfl) (by kernel_rfl) <|
  TabOk.cons (k := 1000000) mixed e (by kernel_rfl) (by kernel_rfl) (by kernel_rfl) <|
  TabOk.cons (k := 1000000) mixed e (by kernel_rfl) (by kernel_rfl) (by kernel_rfl) <|
  TabOk.cons (k := 1000000) mixed e (by kernel_rfl) (by kernel_rfl) (by kernel_rfl) <|
  TabOk.cons (k := 1000000) mixed e (by kernel_rfl) (by kernel_rfl) (by kernel_rfl) <|
  TabOk.cons (k := 1000000) mixed e (by kernel_rfl) (by kernel_rfl) (by kernel_rfl) <|
  TabOk.cons (k := 1000000) mixed e (by kernel_rfl) (by kernel_rfl) (by kernel_rfl) <|
  TabOk.cons (k := 1000000) mixed e (by kernel_rfl) (by kernel_rfl) (by kernel_rfl) <|
  TabOk.cons (k := 1000000) mixed e (by kernel_rfl) (by kernel_rfl) (by kernel_rfl) <|
  TabOk.cons (k := 1000000) mixed e (by kernel_rfl) (by kernel_rfl) (by kernel_rfl) <|
  TabOk.cons (k := 1000000) mixed e (by kernel_rfl) (by kernel_rfl) (by kernel_rfl) <|
  TabOk.cons (k := 1000000) mixed e (by kernel_rfl) (by kernel_rfl) (by kernel_rfl) <|
  TabOk.cons (k := 1000000) mixed e (by kernel_rfl) (by kernel_rfl) (by kernel_rfl) <|
  TabOk.cons (k := 1000000) mixed e (by kernel_rfl) (by kernel_rfl) (by kernel_rfl) <|
  TabOk.cons (k := 1000000) mixed e (by kernel_rfl) (by kernel_rfl) (by kernel_rfl) <|
  TabOk.cons (k := 1000000) mixed e (by kernel_rfl) (by kernel_rfl) (by kernel_rfl) <|
  ok5_2 h

def tab5_4 : Tab := [
  (69, [.lit (.slice none 0 0)], .lit (.slice none 0 0)),
  (191, [.int .i64 1, .int .i64 1, .int .i64 64], .bool true),
  (191, [.int .i64 0, .int .i64 0, .int .i64 65535], .bool true),
  (192, [.lit (.slice none 0 0)], .bool false),
  (166, [.lit (.slice none 0 0)], .lit (.slice none 0 0)),
  (167, [.lit (.slice none 0 0)], .lit (.slice none 0 0)),
  (240, [.agg [.int .i64 1, .int .i64 0, .int .i64 0, .int .i64 0, .int .i64 1], .agg [.int .i64 0, .int .i64 0, .int .i64 0, .int .i64 0, .int .i64 0, .int .i64 0, .int .i64 0, .int .i64 0]], .tup [.agg [.int .i64 0, .int .i64 0, .int .i64 0], .bool false, .bool false]),
  (203, [.agg [.int .i64 0, .int .i64 1, .int .i64 0, .int .i64 0, .int .i64 0, .int .i64 0, .int .i64 0, .int .i64 0, .int .i64 0]], .agg [.int .i64 1, .int .i64 1, .int .i64 0, .int .i64 0, .int .i64 0, .int .i64 0, .int .i64 0, .int .i64 0, .int .i64 0]),
  (240, [.agg [.int .i64 1, .int .i64 1, .int .i64 0, .int .i64 0, .int .i64 5], .agg [.int .i64 1, .int .i64 0, .int .i64 0, .int .i64 0, .int .i64 0, .int .i64 0, .int .i64 0, .int .i64 0]], .tup [.agg [.int .i64 0, .int .i64 0, .int .i64 0], .bool false, .bool false]),
  (203, [.agg [.int .i64 1, .int .i64 1, .int .i64 5, .int .i64 0, .int .i64 0, .int .i64 0, .int .i64 0, .int .i64 0, .int .i64 0]], .agg [.int .i64 2, .int .i64 1, .int .i64 5, .int .i64 0, .int .i64 0, .int .i64 0, .int .i64 0, .int .i64 0, .int .i64 0]),
  (240, [.agg [.int .i64 24, .int .i64 2, .int .i64 0, .int .i64 1, .int .i64 0], .agg [.int .i64 1, .int .i64 5, .int .i64 0, .int .i64 0, .int .i64 0, .int .i64 0, .int .i64 0, .int .i64 0]], .tup [.agg [.int .i64 2, .int .i64 1, .int .i64 5], .bool true, .bool true]),
  (274, [.int .u64 0, .int .u64 1], .bool true),
  (212, [.int .i64 0], .bool true),
  (203, [.agg [.int .i64 2, .int .i64 1, .int .i64 5, .int .i64 0, .int .i64 0, .int .i64 0, .int .i64 0, .int .i64 0, .int .i64 0]], .agg [.int .i64 3, .int .i64 1, .int .i64 5, .int .i64 0, .int .i64 0, .int .i64 0, .int .i64 0, .int .i64 0, .int .i64 0]),
  (72, [.int .i64 0], .int .i64 0),
  (73, [.int .i64 0], .int .i64 1),
  (240, [.agg [.int .i64 25, .int .i64 3, .int .i64 4, .int .i64 0, .int .i64 0], .agg [.int .i64 0, .int .i64 0, .int .i64 0, .int .i64 0, .int .i64 0, .int .i64 0, .int .i64 0, .int .i64 0]], .tup [.agg [.int .i64 3, .int .i64 0, .int .i64 0], .bool true, .bool true]),
  (250, [.int .i64 0], .int .i64 1),
  (203, [.agg [.int .i64 0, .int .i64 0, .int .i64 0, .int .i64 0, .int .i64 5, .int .i64 0, .int .i64 0, .int .i64 0, .int .i64 0]], .agg [.int .i64 1, .int .i64 0, .int .i64 0, .int .i64 0, .int .i64 5, .int .i64 0, .int .i64 0, .int .i64 0, .int .i64 0]),
  (240, [.agg [.int .i64 31, .int .i64 3, .int .i64 0, .int .i64 0, .int .i64 0], .agg [.int .i64 0, .int .i64 0, .int .i64 0, .int .i64 5, .int .i64 0, .int .i64 0, .int .i64 0, .int .i64 0]], .tup [.agg [.int .i64 9, .int .i64 0, .int .i64 5], .bool false, .bool true]),
  (203, [.agg [.int .i64 1, .int .i64 0, .int .i64 0, .int .i64 0, .int .i64 5, .int .i64 0, .int .i64 0, .int .i64 0, .int .i64 0]], .agg [.int .i64 2, .int .i64 0, .int .i64 0, .int .i64 0, .int .i64 5, .int .i64 0, .int .i64 0, .int .i64 0, .int .i64 0]),
  (240, [.agg [.int .i64 22, .int .i64 0, .int .i64 0, .int .i64 0, .int .i64 0], .agg [.int .i64 0, .int .i64 0, .int .i64 0, .int .i64 5, .int .i64 0, .int .i64 0, .int .i64 0, .int .i64 0]], .tup [.agg [.int .i64 0, .int .i64 0, .int .i64 0], .bool false, .bool false]),
  (240, [.agg [.int .i64 25, .int .i64 3, .int .i64 4, .int .i64 0, .int .i64 0], .agg [.int .i64 0, .int .i64 0, .int .i64 0, .int .i64 5, .int .i64 0, .int .i64 0, .int .i64 0, .int .i64 0]], .tup [.agg [.int .i64 3, .int .i64 0, .int .i64 0], .bool true, .bool true]),
  (212, [.int .i64 1], .bool true),
  (30, [.int .i64 17, .int .i64 10], .str [49, 55]),
  (203, [.agg [.int .i64 0, .int .i64 0, .int .i64 0, .int .i64 0, .int .i64 9, .int .i64 2, .int .i64 0, .int .i64 0, .int .i64 0]], .agg [.int .i64 1, .int .i64 0, .int .i64 0, .int .i64 0, .int .i64 9, .int .i64 2, .int .i64 0, .int .i64 0, .int .i64 0]),
  (240, [.agg [.int .i64 31, .int .i64 3, .int .i64 0, .int .i64 0, .int .i64 0], .agg [.int .i64 0, .int .i64 0, .int .i64 0, .int .i64 9, .int .i64 2, .int .i64 0, .int .i64 0, .int .i64 0]], .tup [.agg [.int .i64 9, .int .i64 0, .int .i64 9], .bool false, .bool true]),
  (203, [.agg [.int .i64 1, .int .i64 0, .int .i64 0, .int .i64 0, .int .i64 9, .int .i64 2, .int .i64 0, .int .i64 0, .int .i64 0]], .agg [.int .i64 2, .int .i64 0, .int .i64 0, .int .i64 0, .int .i64 9, .int .i64 2, .int .i64 0, .int .i64 0, .int .i64 0]),
  (240, [.agg [.int .i64 22, .int .i64 0, .int .i64 0, .int .i64 0, .int .i64 0], .agg [.int .i64 0, .int .i64 0, .int .i64 0, .int .i64 9, .int .i64 2, .int .i64 0, .int .i64 0, .int .i64 0]], .tup [.agg [.int .i64 0, .int .i64 0, .int .i64 0], .bool false, .bool false]),
  (240, [.agg [.int .i64 25, .int .i64 3, .int .i64 4, .int .i64 0, .int .i64 0], .agg [.int .i64 0, .int .i64 0, .int .i64 0, .int .i64 9, .int .i64 2, .int .i64 0, .int .i64 0, .int .i64 0]], .tup [.agg [.int .i64 3, .int .i64 0, .int .i64 0], .bool true, .bool true]),
  (72, [.int .i64 1], .int .i64 2),
  (73, [.int .i64 1], .int .i64 3),
  (30, [.int .i64 5, .int .i64 10], .str [53]),
  (30, [.int .i64 3, .int .i64 10], .str [51])] ++ tab5_3
set_option maxRecDepth 1000000 in
theorem ok5_4 {w : World} {v : Value} (h : v.oneCell = true ∧ ∃ c e fz, (sigOf w).ro 6 = some (.cells c e fz) ∧ c[0]? = some v) : TabOk Tryz.prog (sigOf w) tab5_4 :=
  have e : ExOk Tryz.prog (sigOf w) (z v tab4) := exT h (ok4 h)
  TabOk.cons (k := 1000000) mixed e (by kernel_rfl) (by kernel_rfl) (by kernel_rfl) <|
  TabOk.cons (k := 1000000) mixed e (by kernel_rfl) (by kernel_rfl) (by kernel_rfl) <|
  TabOk.cons (k := 1000000) mixed e (by kernel_rfl) (by kernel_rfl) (by kernel_rfl) <|
  TabOk.cons (k := 1000000) mixed e (by kernel_rfl) (by kernel_rfl) (by kernel_rfl) <|
  TabOk.cons (k := 1000000) mixed e (by kernel_rfl) (by kernel_rfl) (by kernel_rfl) <|
  TabOk.cons (k := 1000000) mixed e (by kernel_rfl) (by kernel_rfl) (by kernel_rfl) <|
  TabOk.cons (k := 1000000) mixed e (by kernel_rfl) (by kernel_rfl) (by kernel_rfl) <|
  TabOk.cons (k := 1000000) mixed e (by kernel_rfl) (by kernel_rfl) (by kernel_rfl) <|
  TabOk.cons (k := 1000000) mixed e (by kernel_rfl) (by kernel_rfl) (by kernel_rfl) <|
  TabOk.cons (k := 1000000) mixed e (by kernel_rfl) (by kernel_rfl) (by kernel_rfl) <|
  TabOk.cons (k := 1000000) mixed e (by kernel_rfl) (by kernel_rfl) (by kernel_rfl) <|
  TabOk.cons (k := 1000000) mixed e (by kernel_rfl) (by kernel_rfl) (by kernel_rfl) <|
  TabOk.cons (k := 1000000) mixed e (by kernel_rfl) (by kernel_rfl) (by kernel_rfl) <|
  TabOk.cons (k := 1000000) mixed e (by kernel_rfl) (by kernel_rfl) (by kernel_rfl) <|
  TabOk.cons (k := 1000000) mixed e (by kernel_rfl) (by kernel_rfl) (by kernel_rfl) <|
  TabOk.cons (k := 1000000) mixed e (by kernel_rfl) (by kernel_rfl) (by kernel_rfl) <|
  TabOk.cons (k := 1000000) mixed e (by kernel_rfl) (by kernel_rfl) (by kernel_rfl) <|
  TabOk.cons (k := 1000000) mixed e (by kernel_rfl) (by kernel_rfl) (by kernel_rfl) <|
  TabOk.cons (k := 1000000) mixed e (by kernel_rfl) (by kernel_rfl) (by kernel_rfl) <|
  TabOk.cons (k := 1000000) mixed e (by kernel_rfl) (by kernel_rfl) (by kernel_rfl) <|
  TabOk.cons (k := 1000000) mixed e (by kernel_rfl) (by kernel_rfl) (by kernel_rfl) <|
  TabOk.cons (k := 1000000) mixed e (by kernel_rfl) (by kernel_rfl) (by kernel_rfl) <|
  TabOk.cons (k := 1000000) mixed e (by kernel_rfl) (by kernel_rfl) (by kernel_rfl) <|
  TabOk.cons (k := 1000000) mixed e (by kernel_rfl) (by kernel_rfl) (by kernel_rfl) <|
  TabOk.cons (k := 1000000) mixed e (by kernel_rfl) (by kernel_rfl) (by kernel_rfl) <|
  TabOk.cons (k := 1000000) mixed e (by kernel_rfl) (by kernel_rfl) (by kernel_rfl) <|
  TabOk.cons (k := 1000000) mixed e (by kernel_rfl) (by kernel_rfl) (by kernel_rfl) <|
  TabOk.cons (k := 1000000) mixed e (by kernel_rfl) (by kernel_rfl) (by kernel_rfl) <|
  TabOk.cons (k := 1000000) mixed e (by kernel_rfl) (by kernel_rfl) (by kernel_rfl) <|
  TabOk.cons (k := 1000000) mixed e (by kernel_rfl) (by kernel_rfl) (by kernel_rfl) <|
  TabOk.cons (k := 1000000) mixed e (by kernel_rfl) (by kernel_rfl) (by kernel_rfl) <|
  TabOk.cons (k := 1000000) mixed e (by kernel_rfl) (by kernel_rfl) (by kernel_rfl) <|
  TabOk.cons (k := 1000000) mixed e (by kernel_rfl) (by kernel_rfl) (by kernel_rfl) <|
  TabOk.cons (k := 1000000) mixed e (by kernel_rfl) (by kernel_rfl) (by kernel_rfl) <|
  ok5_3 h

def msk : Nat := 30443131576586418721987506352693290280884430722083080390601183636346390142513053776
def zM (v : Value) (oh : FuncId → List V → St → Option (V × St)) : Ex := ⟨66, 220, gl6 v, lookK 30443131576586418721987506352693290280884430722083080390601183636346390142513053776 tab5_4, oh⟩
theorem exM {w : World} {v : Value} (h : v.oneCell = true ∧ ∃ c e fz, (sigOf w).ro 6 = some (.cells c e fz) ∧ c[0]? = some v) : ExOk Tryz.prog (sigOf w) (zM v noH) := (ex0 h).tabM (ok5_4 h)
end Go.Proofs.YtoeboeihendiiaaGreatDoor.linesNames
