/-
  Layer 14: facts on the program's types and functions. No condition.
-/
import Derived.Test.YtcdlbgmmogccaaaActs
import Derived.Test.YtcdlbgmmogccaaaRows
namespace Go.Proofs.Ytcdlbgmmogccaaa
open Go.Eng

theorem ar26 : arOf Try.prog 26 = some (4, 2) := by kernel_rfl
theorem cb9 : callB Try.prog 9 = true := by kernel_rfl
theorem cb10 : callB Try.prog 10 = true := by kernel_rfl
theorem cb11 : callB Try.prog 11 = true := by kernel_rfl
theorem cb12 : callB Try.prog 12 = true := by kernel_rfl
theorem cb13 : callB Try.prog 13 = true := by kernel_rfl
theorem cb14 : callB Try.prog 14 = true := by kernel_rfl
theorem cb15 : callB Try.prog 15 = true := by kernel_rfl
theorem cb16 : callB Try.prog 16 = true := by kernel_rfl
theorem cb17 : callB Try.prog 17 = true := by kernel_rfl
theorem cb18 : callB Try.prog 18 = true := by kernel_rfl
theorem cb19 : callB Try.prog 19 = true := by kernel_rfl
theorem cb20 : callB Try.prog 20 = true := by kernel_rfl
theorem cb21 : callB Try.prog 21 = true := by kernel_rfl
theorem cb22 : callB Try.prog 22 = true := by kernel_rfl
theorem cb23 : callB Try.prog 23 = true := by kernel_rfl
theorem cb24 : callB Try.prog 24 = true := by kernel_rfl
theorem cb26 : callB Try.prog 26 = true := by kernel_rfl
theorem cb27 : callB Try.prog 27 = true := by kernel_rfl
theorem fa25_0 : faOf Try.prog 25 0 = some 0 := by kernel_rfl
theorem fa28_1 : faOf Try.prog 28 1 = some 1 := by kernel_rfl
theorem fa28_2 : faOf Try.prog 28 2 = some 2 := by kernel_rfl
theorem fa43_0 : faOf Try.prog 43 0 = some 0 := by kernel_rfl
theorem fa43_1 : faOf Try.prog 43 1 = some 1 := by kernel_rfl
theorem fa43_2 : faOf Try.prog 43 2 = some 2 := by kernel_rfl
theorem fa48_0 : faOf Try.prog 48 0 = some 0 := by kernel_rfl
theorem fa48_1 : faOf Try.prog 48 1 = some 1 := by kernel_rfl
theorem fa54_0 : faOf Try.prog 54 0 = some 0 := by kernel_rfl
theorem fa54_1 : faOf Try.prog 54 1 = some 1 := by kernel_rfl
theorem fa54_2 : faOf Try.prog 54 2 = some 2 := by kernel_rfl
theorem fa54_3 : faOf Try.prog 54 3 = some 3 := by kernel_rfl
theorem fa58_0 : faOf Try.prog 58 0 = some 0 := by kernel_rfl
theorem fa58_1 : faOf Try.prog 58 1 = some 1 := by kernel_rfl
theorem fa63_0 : faOf Try.prog 63 0 = some 0 := by kernel_rfl
theorem fa63_1 : faOf Try.prog 63 1 = some 10 := by kernel_rfl
theorem sl22 : slOf Try.prog 22 = some (25, 2, 16) := by kernel_rfl
theorem sl32 : slOf Try.prog 32 = some (3, 1, 8) := by kernel_rfl
theorem sl40 : slOf Try.prog 40 = some (63, 11, 88) := by kernel_rfl
theorem sl41 : slOf Try.prog 41 = some (28, 10, 80) := by kernel_rfl
theorem sl46 : slOf Try.prog 46 = some (48, 11, 88) := by kernel_rfl
theorem sl55 : slOf Try.prog 55 = some (33, 1, 8) := by kernel_rfl
theorem ty3 : tyOf Try.prog 3 = some (false, 1, [.int .i64 0]) := by kernel_rfl
theorem ty25 : tyOf Try.prog 25 = some (true, 2, [.int .i64 0, .int .i64 0]) := by kernel_rfl
theorem ty28 : tyOf Try.prog 28 = some (true, 10, [.int .i64 0, .int .i64 0, .int .i64 0, .int .i64 0, .int .i64 0, .int .i64 0, .int .i64 0, .int .i64 0, .int .i64 0, .int .i64 0]) := by kernel_rfl
theorem ty33 : tyOf Try.prog 33 = some (false, 1, [.pointer none]) := by kernel_rfl
theorem ty40 : tyOf Try.prog 40 = some (false, 1, [.slice none 0 0]) := by kernel_rfl
theorem ty41 : tyOf Try.prog 41 = some (false, 1, [.slice none 0 0]) := by kernel_rfl
theorem ty43 : tyOf Try.prog 43 = some (true, 3, [.slice none 0 0, .slice none 0 0, .int .i64 0]) := by kernel_rfl
theorem ty48 : tyOf Try.prog 48 = some (true, 11, [.int .i64 0, .int .i64 0, .int .i64 0, .int .i64 0, .int .i64 0, .int .i64 0, .int .i64 0, .int .i64 0, .int .i64 0, .int .i64 0, .int .i64 0]) := by kernel_rfl
theorem ty51 : tyOf Try.prog 51 = some (false, 1, [.map none]) := by kernel_rfl
theorem ty52 : tyOf Try.prog 52 = some (false, 1, [.map none]) := by kernel_rfl
theorem ty54 : tyOf Try.prog 54 = some (true, 4, [.map none, .map none, .int .i64 0, .int .i64 0]) := by kernel_rfl
theorem ty58 : tyOf Try.prog 58 = some (true, 2, [.int .i64 0, .int .i64 0]) := by kernel_rfl
theorem ty63 : tyOf Try.prog 63 = some (true, 11, [.int .i64 0, .int .i64 0, .int .i64 0, .int .i64 0, .int .i64 0, .int .i64 0, .int .i64 0, .int .i64 0, .int .i64 0, .int .i64 0, .int .i64 0]) := by kernel_rfl

theorem Try.mixed : Try.prog.follows .mixedOrders = true := by kernel_rfl
theorem fd58_0 : fdOf Try.prog 58 0 = some (3, 0) := by kernel_rfl
theorem flat28 : flat Try.prog 5 28 10 = true := by kernel_rfl
theorem flat25 : flat Try.prog 5 25 2 = true := by kernel_rfl

abbrev Ky := Vector Int 10
theorem KT28 : KT Try.prog 28 (encV (n := 10)) := KT.struct Try.underlying28 flat28 (by decide)
def kc (k : Ky) : List Value := ic k.toList
theorem kc_len (k : Ky) : (kc k).length = 10 := by simp [kc]
theorem kc_one (k : Ky) : ∀ v ∈ kc k, v.oneCell' = true := ic_one _
theorem kc_all (k : Ky) : ((kc k).drop 0).take (kc k).length = kc k := by simp
def ctV (c : Int × Int) : Value := .agg #[.int .i64 c.1, .int .i64 c.2]
theorem zero58 (w : World) : (zeroValue 58).run Try.prog w = .ok (ctV (0, 0)) w := by kernel_rfl
theorem zero3 (w : World) : (zeroValue 3).run Try.prog w = .ok (encI 0) w := by kernel_rfl

end Go.Proofs.Ytcdlbgmmogccaaa
